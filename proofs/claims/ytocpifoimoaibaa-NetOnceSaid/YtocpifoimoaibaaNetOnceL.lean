/- The law NetOnce. -/
import Derived.Test.YtocpifoimoaibaaNetQ
import Derived.Test.YtocpifoimoaibaaNetPassesL
import Derived.Carry
namespace Go.Proofs.Ytocpifoimoaibaa
set_option linter.unusedVariables false
set_option linter.unusedSimpArgs false
open Go.RowKit K Go.Maps
namespace Net

def kB (k : Nat) : ByteArray := ⟨#[0, UInt8.ofNat k]⟩
theorem kB_size (k : Nat) : (kB k).size = 2 := rfl
theorem ofNat_toNat (k : Nat) (h : k < 256) : (UInt8.ofNat k).toNat = k := by simp [UInt8.toNat_ofNat']; omega
theorem kB_key (k : Nat) (h : k < 256) : keyF (kB k) = k := by
  unfold keyF kB
  simp only [List.getD_cons_zero, List.getD_cons_succ, ofNat_toNat k h]
  simp
def eB (k : Nat) : ByteArray := ⟨#[255, UInt8.ofNat k]⟩
theorem eB_size (k : Nat) : (eB k).size = 2 := rfl
theorem eB_key (k : Nat) (h : k < 256) : keyF (eB k) = 65280 + k := by
  unfold keyF eB
  simp only [List.getD_cons_zero, List.getD_cons_succ, ofNat_toNat k h]
  simp
theorem noTurn_snoc {l : List Fate} {f : Fate} (h : NoTurn l) (hf : f.k ≠ 2) : NoTurn (l ++ [f]) := fun x hx => by
  rcases List.mem_append.1 hx with h1 | h1
  · exact h x h1
  · obtain rfl := List.mem_singleton.1 h1; exact hf
theorem loses_snoc (l : List Fate) (f : Fate) : loses (l ++ [f]) = loses l + (if f.k = 1 then 1 else 0) := by
  unfold loses; rw [List.countP_append, List.countP_cons, List.countP_nil]; simp
theorem loses_le (l : List Fate) : loses l ≤ l.length := List.countP_le_length
/-- fates that the loop kept -/
def Kept (fl : List Fate) : Prop := NoTurn fl ∧ FWf fl ∧ anyBad fl = false
theorem Kept.snoc {fl : List Fate} {f : Fate} (h : Kept fl) (h1 : f.k = 0 ∨ f.k = 1 ∨ f.k = 3 ∨ f.k = 4) (h2 : FWf [f]) : Kept (fl ++ [f]) := by
  refine ⟨noTurn_snoc h.1 (by omega), fun x hx => ?_, ?_⟩
  · rcases List.mem_append.1 hx with h1 | h1
    · exact h.2.1 x h1
    · exact h2 x h1
  · have := h.2.2
    unfold anyBad at this ⊢
    rw [List.any_append, this]
    simp [badF]
    omega
/-- at the head of the loops that ask -/
structure OnAt (bn bm bq bk L0 : Nat) (ks : List Int) (k : Nat) (l : List Fate) (wt wb st got gb : List ByteArray) (p : NP) (F : Nat → Prop) (w wr : World) : Prop where
  both : Both (onceV bm bq) wr p F k l wt wb st
  bn : p.bn = bn
  back : MpAt bk gb wr
  apart : ¬ p.fp bk ∧ ¬ F bk
  fit : Fit L0 ks k l wt wb st got
  fp : ∀ i, p.fp i → w.heap.size ≤ i
  low : w.heap.size ≤ bm ∧ w.heap.size ≤ bq ∧ w.heap.size ≤ bk
  mod : Mod (fun _ => False) w wr
def OnRel (bn bm bq bk L0 : Nat) (ks : List Int) (k n : Nat) (w wr : World) : Prop := ∃ l wt wb st got p F, OnAt bn bm bq bk L0 ks k l wt wb st got got p F w wr ∧ l.length + k ≤ n
theorem OnAt.keep {bn bm bq bk L0 k : Nat} {ks : List Int} {l : List Fate} {wt wb st got gb : List ByteArray} {p : NP} {F : Nat → Prop} {w wr w' : World} (h : OnAt bn bm bq bk L0 ks k l wt wb st got gb p F w wr) (m : Mod (fun _ => False) wr w') : OnAt bn bm bq bk L0 ks k l wt wb st got gb p F w w' :=
  ⟨h.both.keep (once_ok bm bq) m (fun _ _ h => h), h.bn, h.back.keep m (fun h => h), h.apart, h.fit, h.fp, h.low, Mod.trans h.mod m (fun _ _ h => h)⟩
theorem MpAt.ne {bq b : Nat} {st : List ByteArray} {w : World} {cur : Array Value} {T : TypeId} {fr : Nat × Nat} (h : MpAt bq st w) (hc : w.heap[b]? = some (.cells cur T fr)) : bq ≠ b := by
  rintro rfl
  obtain ⟨D, ⟨es, clock, hb, _⟩, _⟩ := h
  rw [hb] at hc; cases hc
theorem OnAt.upd {bn bm bq bk L0 k : Nat} {ks : List Int} {l : List Fate} {wt wb st got gb gb' : List ByteArray} {p : NP} {F : Nat → Prop} {w wr w' : World} (h : OnAt bn bm bq bk L0 ks k l wt wb st got gb p F w wr) (m : Mod (fun k => k = bk) wr w') (h' : MpAt bk gb' w') : OnAt bn bm bq bk L0 ks k l wt wb st got gb' p F w w' :=
  ⟨h.both.keep (once_ok bm bq) m (fun i hi e => by subst e; rcases hi with hi | hi; exact h.apart.1 hi; exact h.apart.2 hi), h.bn, h', h.apart, h.fit, h.fp, h.low, Mod.trans h.mod m (fun i hi e => by have := h.low; omega)⟩
/-- an Ask -/
theorem OnAt.ask {bn bm bq bk L0 k : Nat} {ks : List Int} {l : List Fate} {wt wb st got : List ByteArray} {p : NP} {F : Nat → Prop} {w wr : World} (h : OnAt bn bm bq bk L0 ks k l wt wb st got got p F w wr) (hk : k ≤ 1000) (s : ByteArray) (hs : keyF s ∉ ks) (h2 : s.size = 2) :
    Calls Try.prog 11 #[.pointer (some ⟨bn, 0, none⟩), .string s] wr fun e w' => ∃ Ag cg OUT l' wt' wb' st' p' F', e = .returned (.slice Ag OUT.length cg) ∧ Frames w' Ag cg OUT ∧ Two OUT ∧ OUT.length ≤ 10000 ∧
      OnAt bn bm bq bk L0 (ks ++ [keyF s]) (k + 1) l' wt' wb' st' (got ++ OUT) got p' F' w w' ∧ l'.length ≤ l.length - 1 ∧ (l = [] → l' = [] ∧ wt' = [] ∧ wb' = []) := by
  have q1 := h.fit.lt
  have q2 := h.fit.lb
  have hA := ask_calls (once_ok bm bq) (once_ans bm bq) p F k l wt wb st s wr h.both ⟨h.fit.wf, h.fit.wt2, h.fit.wb2, by omega, by omega, by show st.length ≤ _; omega⟩ h2 (by omega)
  rw [h.bn] at hA
  refine hA.mono ?_
  rintro e w5 ⟨v, p2, F2, rfl, ho, hB, hW, -⟩
  obtain ⟨a1, a2, a3, a4⟩ := h.fit.ask (once_notes bm bq) s hs h2
  have q3 := a1.lb
  have q4 := a1.lt
  generalize (onceV bm bq).asks (goes (hd l) s wt).1 l.tail wb st = x at *
  generalize (goes (hd l) s wt).2 = wt2 at *
  obtain ⟨Ag, cg, rfl, hfg, hfgb⟩ := own_frames ho
  have hF := h.both.srv.2
  refine ⟨Ag, cg, x.out, x.l, wt2, x.wb, x.st, p2, F2, rfl, hfg, a2, by simp only [List.length_append] at q3; omega, ⟨hB, hW.bn.trans h.bn, h.back.keep hW.mod (fun hh => ?_), hW.apart h.back.lt h.apart, a1, fun i hi => ?_, h.low, Mod.trans h.mod hW.mod (fun i hi hh => ?_)⟩, a3, a4⟩
  · rcases hh with hh | hh
    · exact h.apart.1 hh
    · exact h.apart.2 hh.1
  · rcases hW.fp i hi with hh | hh
    · exact h.fp i hh
    · exact Nat.le_trans h.mod.size hh
  · rcases hh with hh | hh
    · have := h.fp i hh; omega
    · have hh1 := hh.1
      rw [hF] at hh1
      have := h.low
      rcases hh1 with rfl | rfl <;> omega
/-- the keys of the frames behind the loop -/
def eK (k : Nat) : List Int := (List.range k).map (fun (i : Nat) => 65280 + (i : Int))
theorem eK_succ (k : Nat) : eK (k + 1) = eK k ++ [65280 + (k : Int)] := by simp [eK, List.range_succ]
theorem eK_mem {k : Nat} {x : Int} (h : x ∈ eK k) : 65280 ≤ x ∧ x < 65280 + k := by
  obtain ⟨i, hi, rfl⟩ := List.mem_map.1 h
  have := List.mem_range.1 hi
  exact ⟨by omega, by omega⟩
/-- at the head of the loop behind -/
def ERel (bn bm bq bk L0 n j : Nat) (w wr : World) : Prop := ∃ wt wb st got p F, OnAt bn bm bq bk L0 (ksN n ++ eK j) (n + j) [] wt wb st got got p F w wr ∧ (0 < j → wt = [] ∧ wb = [])
def gone (got : List ByteArray) (n : Nat) : Nat := (ksN n).countP (fun k => decide (cnt got k = 0))
theorem gone_succ (got : List ByteArray) (n : Nat) : gone got (n + 1) = gone got n + (if cnt got (n : Int) = 0 then 1 else 0) := by
  unfold gone; rw [ksN_succ, List.countP_append, List.countP_cons, List.countP_nil]; simp
theorem gone_le (got : List ByteArray) (n : Nat) : gone got n ≤ n := by
  have h : gone got n ≤ (ksN n).length := List.countP_le_length
  have h2 : (ksN n).length = n := by simp [ksN]
  omega
theorem cv_two (a : UInt8) (b : UInt8) (w : World) : (convert 42 9 (.slice (some ⟨w.heap.size, 0, none⟩) 2 2)).run Try.prog (w.alloc (.cells #[.int .u8 (a.toNat : Int), .int .u8 (b.toNat : Int)] 5)) = .ok (.string ⟨#[a, b]⟩) (w.alloc (.cells #[.int .u8 (a.toNat : Int), .int .u8 (b.toNat : Int)] 5)) :=
  run_bytes (l := [a, b]) 2 (cells_lit (by simp [bv])) _ _ 5 Try.underlying42 Try.underlying5 Try.underlying9
set_option maxRecDepth 100000 in
set_option maxHeartbeats 8000000 in
theorem netOnce_calls (A0 : Option Addr) (c0 : Nat) (l : List Fate) (many : Int) (w : World)
    (h0 : FatesIn w A0 c0 l) (hmw : (Lit.int .i64 many).wf = true) :
    Calls Try.prog 5 #[.slice A0 l.length c0, .int .i64 many] w fun e w' => e = .returned (.bool true) ∧ Below w.heap.size w w' := by
  have hsz := h0.size
  have hm64 : -9223372036854775808 ≤ many ∧ many ≤ 9223372036854775807 := by
    simpa [Lit.wf, IntKind.min, IntKind.max, IntKind.bits, IntKind.signed] using hmw
  have H0 := Lib.hid h0
  have hmm := @run_makeMap Try.prog
  clear h0 hmw
  by_cases hneg : many < 0
  · obtain ⟨N, hN⟩ : ∃ N : Nat, -(many + 1) = N := ⟨(-(many + 1)).toNat, by omega⟩
    have hw1 : IntKind.i64.wrap (many + 1) = many + 1 := by rw [IntKind.wrap_i64]; omega
    have hw2 : IntKind.i64.wrap (-(many + 1)) = N := by rw [IntKind.wrap_i64]; omega
    have hw3 : (N : Int).tmod 50 = ((N % 50 : Nat) : Int) := by rw [Int.tmod_eq_emod_of_nonneg (by omega)]; omega
    have hw4 : IntKind.i64.wrap ((N % 50 : Nat) : Int) = ((N % 50 : Nat) : Int) := by rw [IntKind.wrap_i64]; omega
    go_enter Try.func5, Try.ntmps5
    go_wp2_with fail
    refine (shown_calls _).mono ?_
    rintro e w1 ⟨rfl, hm1⟩
    have HM1 := Lib.hid hm1
    clear hm1
    go_wp2_with fail
    as_aux_lemma =>
      go_loopw [6, 7, 8, 9] (fun vl hv lv i wr => ∃ (k : Nat) (fl : List Fate) (hc : Nat), hv = .int .i64 hc ∧ lv = .int .i64 (loses fl : Nat) ∧ i = .int .i64 k ∧ k ≤ l.length ∧ k ≤ 60 ∧ fl.length ≤ k ∧ hc ≤ k ∧ Hid (wr.ownsRow w1.heap.size 35 3 vl fl.length (fcs fl)) ∧ Hid (Kept fl) ∧ Hid (Mod (fun _ => False) w1 wr)) (fun _ _ _ i _ => l.length - (intOf i).toNat)
      case atStart => exact ⟨0, [], 0, by go_num, by go_num, by go_num, by omega, by omega, Nat.le_refl _, Nat.le_refl _, Lib.hid (World.ownsRow_nil _ _ _ _), Lib.hid ⟨(fun _ h => by cases h), (fun _ h => by cases h), rfl⟩, Lib.hid (Mod.refl _ _)⟩
      case round =>
        obtain ⟨k, fl, hc, rfl, rfl, rfl, hk, hk5, hfl, hhc, HO, HG, HM⟩ := hrel
        have hls := loses_le fl
        by_cases hlt : k < l.length
        · have i1 : (k : Int) < (l.length : Int) := by omega
          by_cases hlt5 : k < 60
          · have i2 : (k : Int) < 60 := by omega
            have hm0 := Mod.trans HM1.out HM.out (fun _ _ h => h)
            rcases H0.out.cells.keep hm0 (fun _ _ h => h) with h | ⟨b, o, rfl, hcell⟩
            · have := fcs_len l; rw [h] at this; simp at this; omega
            have g := fcs_get l k hlt
            have x0 := hcell _ _ g.1
            have x1 := hcell _ _ g.2.1
            have x2 := hcell _ _ g.2.2
            rw [← Nat.add_assoc] at x1 x2
            have hbl : b < wr.heap.size := World.block_lt_of_cell? wr _ x0
            have hwf := H0.out.wf l[k] (List.getElem_mem hlt)
            generalize l[k] = f at *
            obtain ⟨fk, fa, fb⟩ := f
            dsimp only at *
            have HWF : Hid (FWf [⟨fk, fa, fb⟩]) := Lib.hid (fun x hx => by obtain rfl := List.mem_singleton.1 hx; exact hwf)
            have hz := HM.out.size
            have hw9 : IntKind.i64.wrap ((k : Int) + 1) = (k : Int) + 1 := by rw [IntKind.wrap_i64]; omega
            have hw8 : IntKind.i64.wrap ((hc : Int) + 1) = (hc : Int) + 1 := by rw [IntKind.wrap_i64]; omega
            have hw7 : IntKind.i64.wrap ((loses fl : Int) + 1) = (loses fl : Int) + 1 := by rw [IntKind.wrap_i64]; omega
            clear hcell g hm0 hwf
            by_cases hg0 : fk = 0
            · subst hg0
              go_wp2_with (first
                | (at_builtin
                   go_must (refine appG (.tmp 64) (.tmp 66) T_fate w1.heap.size _ fl.length (fcs fl) ((HO.out.alloc _).alloc _) _ 1 1 (fc ⟨0, fa, fb⟩) rfl rfl rfl rfl rfl (cells_lit (by simp)) (fc_one _) (by omega) (by unfold maxLen; omega) (by simp; omega) ?_; intro v2 w2 hown2 hm2 hrow2)
                   have hown3 : w2.ownsRow w1.heap.size 35 3 v2 (fl ++ [(⟨0, fa, fb⟩ : Fate)]).length (fcs (fl ++ [(⟨0, fa, fb⟩ : Fate)])) := by
                     rw [List.length_append, fcs_snoc]; exact hown2
                   have HO2 := Lib.hid hown3
                   have HM2 := Lib.hid (Mod.trans ((HM.out.alloc _).alloc _) hm2 (fun i hi h => by have := (HO.out.lt i h).1; omega))
                   have hbf := ((Has.new wr [.int .i64 (0 : Int), .int .i64 fa, .int .u8 (fb.toNat : Int)] 35).alloc (.cells #[.int .i64 (0 : Int), .int .i64 fa, .int .u8 (fb.toNat : Int)] 35)).keep hm2 (fun h => by have := (HO.out.lt _ h).2; omega)
                   have xf0 := hbf.cell (o := 0) rfl
                   clear hown2 hown3 hm2 hrow2 hbf))
              go_roundw
              case rel => exact ⟨k + 1, fl ++ [⟨0, fa, fb⟩], hc + 0, by go_num, by rw [loses_snoc]; go_num, by go_num, by omega, by omega, by simp; omega, by omega, HO2, Lib.hid (HG.out.snoc (f := ⟨0, fa, fb⟩) (by simp) HWF.out), HM2⟩
              case measure => simp [intOf]; omega
            · by_cases hg1 : fk = 1
              · subst hg1
                go_wp2_with (first
                  | (at_builtin
                     go_must (refine appG (.tmp 64) (.tmp 66) T_fate w1.heap.size _ fl.length (fcs fl) ((HO.out.alloc _).alloc _) _ 1 1 (fc ⟨1, fa, fb⟩) rfl rfl rfl rfl rfl (cells_lit (by simp)) (fc_one _) (by omega) (by unfold maxLen; omega) (by simp; omega) ?_; intro v2 w2 hown2 hm2 hrow2)
                     have hown3 : w2.ownsRow w1.heap.size 35 3 v2 (fl ++ [(⟨1, fa, fb⟩ : Fate)]).length (fcs (fl ++ [(⟨1, fa, fb⟩ : Fate)])) := by
                       rw [List.length_append, fcs_snoc]; exact hown2
                     have HO2 := Lib.hid hown3
                     have HM2 := Lib.hid (Mod.trans ((HM.out.alloc _).alloc _) hm2 (fun i hi h => by have := (HO.out.lt i h).1; omega))
                     have hbf := ((Has.new wr [.int .i64 (1 : Int), .int .i64 fa, .int .u8 (fb.toNat : Int)] 35).alloc (.cells #[.int .i64 (1 : Int), .int .i64 fa, .int .u8 (fb.toNat : Int)] 35)).keep hm2 (fun h => by have := (HO.out.lt _ h).2; omega)
                     have xf0 := hbf.cell (o := 0) rfl
                     clear hown2 hown3 hm2 hrow2 hbf))
                go_roundw
                case rel => exact ⟨k + 1, fl ++ [⟨1, fa, fb⟩], hc + 0, by go_num, by rw [loses_snoc]; go_num, by go_num, by omega, by omega, by simp; omega, by omega, HO2, Lib.hid (HG.out.snoc (f := ⟨1, fa, fb⟩) (by simp) HWF.out), HM2⟩
                case measure => simp [intOf]; omega
              · by_cases hg3 : fk = 3
                · subst hg3
                  go_wp2_with (first
                    | (at_builtin
                       go_must (refine appG (.tmp 64) (.tmp 66) T_fate w1.heap.size _ fl.length (fcs fl) ((HO.out.alloc _).alloc _) _ 1 1 (fc ⟨3, fa, fb⟩) rfl rfl rfl rfl rfl (cells_lit (by simp)) (fc_one _) (by omega) (by unfold maxLen; omega) (by simp; omega) ?_; intro v2 w2 hown2 hm2 hrow2)
                       have hown3 : w2.ownsRow w1.heap.size 35 3 v2 (fl ++ [(⟨3, fa, fb⟩ : Fate)]).length (fcs (fl ++ [(⟨3, fa, fb⟩ : Fate)])) := by
                         rw [List.length_append, fcs_snoc]; exact hown2
                       have HO2 := Lib.hid hown3
                       have HM2 := Lib.hid (Mod.trans ((HM.out.alloc _).alloc _) hm2 (fun i hi h => by have := (HO.out.lt i h).1; omega))
                       have hbf := ((Has.new wr [.int .i64 (3 : Int), .int .i64 fa, .int .u8 (fb.toNat : Int)] 35).alloc (.cells #[.int .i64 (3 : Int), .int .i64 fa, .int .u8 (fb.toNat : Int)] 35)).keep hm2 (fun h => by have := (HO.out.lt _ h).2; omega)
                       have xf0 := hbf.cell (o := 0) rfl
                       clear hown2 hown3 hm2 hrow2 hbf))
                  go_roundw
                  case rel => exact ⟨k + 1, fl ++ [⟨3, fa, fb⟩], hc + 1, by go_num, by rw [loses_snoc]; go_num, by go_num, by omega, by omega, by simp; omega, by omega, HO2, Lib.hid (HG.out.snoc (f := ⟨3, fa, fb⟩) (by simp) HWF.out), HM2⟩
                  case measure => simp [intOf]; omega
                · by_cases hg4 : fk = 4
                  · subst hg4
                    go_wp2_with (first
                      | (at_builtin
                         go_must (refine appG (.tmp 64) (.tmp 66) T_fate w1.heap.size _ fl.length (fcs fl) ((HO.out.alloc _).alloc _) _ 1 1 (fc ⟨4, fa, fb⟩) rfl rfl rfl rfl rfl (cells_lit (by simp)) (fc_one _) (by omega) (by unfold maxLen; omega) (by simp; omega) ?_; intro v2 w2 hown2 hm2 hrow2)
                         have hown3 : w2.ownsRow w1.heap.size 35 3 v2 (fl ++ [(⟨4, fa, fb⟩ : Fate)]).length (fcs (fl ++ [(⟨4, fa, fb⟩ : Fate)])) := by
                           rw [List.length_append, fcs_snoc]; exact hown2
                         have HO2 := Lib.hid hown3
                         have HM2 := Lib.hid (Mod.trans ((HM.out.alloc _).alloc _) hm2 (fun i hi h => by have := (HO.out.lt i h).1; omega))
                         have hbf := ((Has.new wr [.int .i64 (4 : Int), .int .i64 fa, .int .u8 (fb.toNat : Int)] 35).alloc (.cells #[.int .i64 (4 : Int), .int .i64 fa, .int .u8 (fb.toNat : Int)] 35)).keep hm2 (fun h => by have := (HO.out.lt _ h).2; omega)
                         have xf0 := hbf.cell (o := 0) rfl
                         clear hown2 hown3 hm2 hrow2 hbf))
                    go_roundw
                    case rel => exact ⟨k + 1, fl ++ [⟨4, fa, fb⟩], hc + 0, by go_num, by rw [loses_snoc]; go_num, by go_num, by omega, by omega, by simp; omega, by omega, HO2, Lib.hid (HG.out.snoc (f := ⟨4, fa, fb⟩) (by simp) HWF.out), HM2⟩
                    case measure => simp [intOf]; omega
                  · have q0 : (fk == 0) = false := by simpa using hg0
                    have q1 : (fk == 1) = false := by simpa using hg1
                    have q3 : (fk == 3) = false := by simpa using hg3
                    have q4 : (fk == 4) = false := by simpa using hg4
                    go_wp2_with fail
                    go_roundw
                    case rel => exact ⟨k + 1, fl, hc, by go_num, by go_num, by go_num, by omega, by omega, by omega, by omega, Lib.hid (HO.out.alloc _), HG, Lib.hid (Mod.alloc HM.out _)⟩
                    case measure => simp [intOf]; omega
          · have i1 : (k : Int) < (l.length : Int) := by omega
            have i2 : ¬ (k : Int) < 60 := by omega
            as_aux_lemma =>
              obtain ⟨A3, c3, rfl, hF3, hb3⟩ := own_fates HO.out
              have hm3 := Mod.trans HM1.out HM.out (fun _ _ h => h)
              have hz3 := HM.out.size
              have hz1 := HM1.out.size
              have HF3 := Lib.hid hF3
              have HM3 := Lib.hid hm3
              have hml : loses fl ≤ fl.length := loses_le fl
              clear hF3 hb3 hm3 HO HM
              go_wp2_with fail
              clear i1
              try clear i2
              have HOW := Lib.hid (Int.le_refl 0)
              have hm4 : Mod (fun _ => False) wr (((wr.alloc (.map #[] 0)).alloc (.cells #[.map (some wr.heap.size)] 41)).alloc (.map #[] 0)) := (((Mod.refl _ _).alloc _).alloc _).alloc _
              have hbx : Has (((wr.alloc (.map #[] 0)).alloc (.cells #[.map (some wr.heap.size)] 41)).alloc (.map #[] 0)) (wr.heap.size + 1) [.map (some wr.heap.size)] 41 := (Has.lit (by simp)).alloc _
              have hmp : MpAt wr.heap.size [] (((wr.alloc (.map #[] 0)).alloc (.cells #[.map (some wr.heap.size)] 41)).alloc (.map #[] 0)) := MpAt.keep ⟨.map [], World.ownsMap_made (H := Unit) wr Try.prog 3 (plainElem Try.prog 3), Counts.nil⟩ (((Mod.refl (fun _ => False) _).alloc _).alloc _) (fun h => h)
              have hbk : MpAt (wr.heap.size + 2) [] (((wr.alloc (.map #[] 0)).alloc (.cells #[.map (some wr.heap.size)] 41)).alloc (.map #[] 0)) := ⟨.map [], by
                have h := World.ownsMap_made (H := Unit) ((wr.alloc (.map #[] 0)).alloc (.cells #[.map (some wr.heap.size)] 41)) Try.prog 3 (plainElem Try.prog 3)
                simpa using h, Counts.nil⟩
              have HX4 := Lib.hid (And.intro hm4 (And.intro hbx (And.intro hmp hbk)))
              clear hm4 hbx hmp hbk
              refine (new_calls 18 #[.pointer (some ⟨wr.heap.size + 1, 0, none⟩)] A3 c3 fl _ (HF3.out.cells.keep HX4.out.1 (fun _ _ h => h)) HF3.out.cap HF3.out.max HG.out.2.2 (by omega)).mono ?_
              rintro e w4 ⟨p, rfl, hN4, hfp4, hm5⟩
              obtain ⟨hm4, hbx, hmp, hbk⟩ := HX4.out
              have hrel : OnRel p.bn (wr.heap.size + 1) wr.heap.size (wr.heap.size + 2) (loses fl) (ksN 0) 0 60 w w4 :=
                ⟨fl, [], [], [], [], p, fun k => k = wr.heap.size + 1 ∨ k = wr.heap.size, ⟨⟨hN4, ⟨⟨hbx.keep hm5 (fun h => h), hmp.keep hm5 (fun h => h), by omega⟩, rfl⟩, fun k hk h => by
                    have := hfp4 k hk
                    simp only [size_alloc] at this
                    omega⟩, rfl, hbk.keep hm5 (fun h => h), ⟨fun h => by have := hfp4 _ h; simp only [size_alloc] at this; omega, by omega⟩, Fit.nil fl HG.out.2.1 HG.out.1, fun i hi => by have := hfp4 i hi; simp only [size_alloc] at this; omega, by omega, Mod.trans HM3.out (Mod.trans hm4 hm5 (fun _ _ h => h)) (fun _ _ h => h)⟩, by omega⟩
              have HR := Lib.hid hrel
              have hbx3 : wr.heap.size + 2 < w4.heap.size := (hbk.keep hm5 (fun h => h)).lt
              clear hrel hN4 hfp4 hm4 hm5 hbx hmp hbk HF3 HX4 HM3 HG HOW hml
              go_wp2_with fail
              generalize p.bn = bn at *
              generalize loses fl = L0 at *
              try simp only [Nat.add_assoc, Nat.reduceAdd]
              generalize hbm : wr.heap.size + 1 = bm at *
              generalize hbk : wr.heap.size + 2 = bk at *
              generalize hbq : wr.heap.size = bq at *
              go_loopw [15, 16] (fun al i wr => ∃ k : Nat, al = .int .i64 k ∧ i = .int .i64 k ∧ k ≤ 60 ∧ Hid (OnRel bn bm bq bk L0 (ksN k) k 60 w wr)) (fun _ i _ => 60 - (intOf i).toNat)
              case atStart => exact ⟨0, by go_num, by go_num, by omega, HR⟩
              case round =>
                obtain ⟨k2, rfl, rfl, hk2, HR2⟩ := hrel
                by_cases hkM : k2 < N % 50
                · have i1 : (k2 : Int) < ((N % 50 : Nat) : Int) := by omega
                  as_aux_lemma =>
                    have hk60 : k2 < 60 := by
                      first | omega | (obtain ⟨lz, wt, wb, st, got, pz, Fz, hON, hln⟩ := HR2.out; omega)
                    clear i1
                    try clear i2
                    have hq0 : (k2 : Int).tdiv 256 = 0 := by rw [Int.tdiv_eq_ediv_of_nonneg (by omega)]; omega
                    have hq1 : IntKind.u8.wrap (k2 : Int) = (k2 : Int) := by simp [IntKind.wrap, IntKind.bits, IntKind.signed]; omega
                    have hcv := cv_two 0 (UInt8.ofNat k2) wr
                    rw [ofNat_toNat k2 (by omega), show (((0 : UInt8).toNat : Nat) : Int) = 0 from rfl] at hcv
                    change _ = Result.ok (Value.string (kB k2)) _ at hcv
                    obtain ⟨ly, wty, wby, sty, goty, py, Fy, hOY, hly⟩ := HR2.out
                    have hA := (hOY.keep ((Mod.refl (fun _ => False) wr).alloc (.cells #[.int .u8 0, .int .u8 (k2 : Int)] 5))).ask (by omega) (kB k2) (by rw [kB_key k2 (by omega)]; exact fun h => by have := ksN_mem h; omega) rfl
                    rw [kB_key k2 (by omega), ← ksN_succ] at hA
                    have HA := Lib.hid hA
                    have HLY := Lib.hid hly
                    clear hA hOY hly HR2
                    try clear HON
                    go_wp2_with fail
                    refine HA.out.mono ?_
                    rintro e w5 ⟨Ag, cg, OUT, l3, wt3, wb3, st3, p3, F3, rfl, hfr, htw, hol, hO3, hl3, -⟩
                    have HFR := Lib.hid hfr
                    have HTW := Lib.hid htw
                    have HO3 := Lib.hid hO3
                    have hl60 : l3.length + (k2 + 1) ≤ 60 := by have := HLY.out; omega
                    clear hfr htw hO3 hl3 hcv HA HLY
                    go_wp2_with fail
                    go_loopw [18] (fun j wr => ∃ j2 : Nat, j = .int .i64 j2 ∧ j2 ≤ OUT.length ∧ Hid (OnAt bn bm bq bk L0 (ksN (k2 + 1)) (k2 + 1) l3 wt3 wb3 st3 (goty ++ OUT) (goty ++ OUT.take j2) p3 F3 w wr) ∧ Hid (Frames wr Ag cg OUT)) (fun j _ => OUT.length - (intOf j).toNat)
                    case atStart => exact ⟨0, by go_num, by omega, by rw [List.take_zero, List.append_nil]; exact HO3, HFR⟩
                    case round =>
                      obtain ⟨j2, rfl, hj2, HO4, HFR4⟩ := hrel
                      by_cases hjl : j2 < OUT.length
                      · have ij : (j2 : Int) < (OUT.length : Int) := by omega
                        have hcs := HFR4.out.cells
                        rcases hcs with hcl | ⟨gf, og, rfl, hcell⟩
                        · have hz0 := sv_len OUT; rw [hcl] at hz0; simp at hz0; omega
                        have ck := hcell j2 _ (sv_get OUT j2 hjl)
                        have hgf : gf < wr.heap.size := World.block_lt_of_cell? wr _ ck
                        have hs := HTW.out OUT[j2] (List.getElem_mem hjl)
                        have htk : OUT.take (j2 + 1) = OUT.take j2 ++ [OUT[j2]] := List.take_succ_eq_append_getElem hjl
                        obtain ⟨s, hse⟩ : ∃ s, OUT[j2] = s := ⟨_, rfl⟩
                        rw [hse] at ck hs htk
                        have x0 := fun (w' : World) (m : Mod0 wr.drew w') => ((Mod.of_drew_l m).cell (p := ⟨gf, og + j2, none⟩) hgf (fun h => h)).trans ck
                        have lk := fun (w' : World) (m : Mod0 wr.drew w') => (HO4.out.back.keep (Mod.of_drew_l m) (fun h => h)).look (keyF s) (by have := key_le s; omega)
                        have i0 : ∀ w' : World, (Instr.index 9 (.string s) (.int .i64 0)).run Try.prog w' = _ := fun w' => idx_at s 0 (by omega) w'
                        have i1 : ∀ w' : World, (Instr.index 9 (.string s) (.int .i64 1)).run Try.prog w' = _ := fun w' => idx_at s 1 (by omega) w'
                        have hkle := key_le s
                        have hlg : (goty ++ OUT.take j2).length ≤ 100000 := by
                          have h1 := HO4.out.fit.lb
                          have h2 := HO4.out.fit.lt
                          simp only [List.length_append, List.length_take] at h1 ⊢
                          omega
                        obtain ⟨GB, hGB⟩ : ∃ GB, goty ++ OUT.take j2 = GB := ⟨_, rfl⟩
                        have hgn : goty ++ OUT.take (j2 + 1) = GB ++ [s] := by rw [htk, ← List.append_assoc, hGB]
                        rw [hGB] at HO4 hlg
                        simp only [hGB] at lk
                        have hcl := cnt_le GB (keyF s)
                        obtain ⟨ka, hka⟩ : ∃ ka : Int, ((s.data.toList.getD 0 0).toNat : Int) = ka := ⟨_, rfl⟩
                        obtain ⟨kb, hkb⟩ : ∃ kb : Int, ((s.data.toList.getD 1 0).toNat : Int) = kb := ⟨_, rfl⟩
                        have hk : keyF s = ka * 256 + kb := by unfold keyF; rw [hka, hkb]
                        have hab : 0 ≤ ka ∧ ka ≤ 255 ∧ 0 ≤ kb ∧ kb ≤ 255 := by
                          have h1 := (s.data.toList.getD 0 0).toNat_lt
                          have h2 := (s.data.toList.getD 1 0).toNat_lt
                          omega
                        rw [hka] at i0
                        rw [hkb] at i1
                        have hput := fun D (hD : Counts D GB) => hD.put s
                        obtain ⟨c, hc'⟩ : ∃ c : Nat, cnt GB (keyF s) = c := ⟨_, rfl⟩
                        simp only [hc'] at lk hcl hput
                        rw [hk] at lk hkle
                        simp only [hk] at hput
                        have hw1 : IntKind.i64.wrap ka = ka := by rw [IntKind.wrap_i64]; omega
                        have hw2 : IntKind.i64.wrap kb = kb := by rw [IntKind.wrap_i64]; omega
                        have hw3 : IntKind.i64.wrap (ka * 256) = ka * 256 := by rw [IntKind.wrap_i64]; omega
                        have hw4 : IntKind.i64.wrap (ka * 256 + kb) = ka * 256 + kb := by rw [IntKind.wrap_i64]; omega
                        have hw5 : IntKind.i64.wrap ((c : Int) + 1) = (c : Int) + 1 := by rw [IntKind.wrap_i64]; omega
                        have hw6 : IntKind.i64.wrap ((j2 : Int) + 1) = (j2 : Int) + 1 := by rw [IntKind.wrap_i64]; omega
                        obtain ⟨D, hD1, hD2⟩ := HO4.out.back
                        have HD := Lib.hid (ownsMap_keep hD1 ((Mod.refl (fun _ => False) wr).drew) (fun h => h))
                        have HP := Lib.hid (hput D hD2)
                        have HGN := Lib.hid hgn
                        have ij0 : (0 : Int) ≤ (j2 : Int) := by omega
                        clear hka hkb hk hc' hput hD1 hD2 hcell htk hse hGB hgn ck
                        go_wp2_with fail
                        refine region_m (by kernel_rfl) ?_
                        simp only [List.length_cons, List.length_nil, List.replicate]
                        refine take0 (v := ?v1) (oi := ?o1) 0 ?hi1 (by kernel_rfl) (by kernel_rfl) (by kernel_rfl) ?hq1 ?hy1 ?_
                        case hi1 => (simp only [List.getElem?_toArray, List.getElem?_cons_zero, List.getElem?_cons_succ]; rfl)
                        case hq1 => exact fun _ _ _ h => h
                        case hy1 => first | (refine ry_not ?_; rfl) | (refine ry_run (by rfl) (fun w' hw' => ?_); go_simp; try rfl)
                        simp only [Act.put, List.setIfInBounds_toArray, List.set_cons_zero, List.set_cons_succ]
                        refine take0 (v := ?v2) (oi := ?o2) 1 ?hi2 (by kernel_rfl) (by kernel_rfl) (by kernel_rfl) ?hq2 ?hy2 ?_
                        case hi2 => (simp only [List.getElem?_toArray, List.getElem?_cons_zero, List.getElem?_cons_succ]; rfl)
                        case hq2 => exact fun _ _ _ h => h
                        case hy2 => first | (refine ry_not ?_; rfl) | (refine ry_run (by rfl) (fun w' hw' => ?_); go_simp; try rfl)
                        simp only [Act.put, List.setIfInBounds_toArray, List.set_cons_zero, List.set_cons_succ]
                        refine take0 (v := ?v3) (oi := ?o3) 2 ?hi3 (by kernel_rfl) (by kernel_rfl) (by kernel_rfl) ?hq3 ?hy3 ?_
                        case hi3 => (simp only [List.getElem?_toArray, List.getElem?_cons_zero, List.getElem?_cons_succ]; rfl)
                        case hq3 => exact fun _ _ _ h => h
                        case hy3 => first | (refine ry_not ?_; rfl) | (refine ry_run (by rfl) (fun w' hw' => ?_); go_simp; try rfl)
                        simp only [Act.put, List.setIfInBounds_toArray, List.set_cons_zero, List.set_cons_succ]
                        refine take0 (v := ?v4) (oi := ?o4) 3 ?hi4 (by kernel_rfl) (by kernel_rfl) (by kernel_rfl) ?hq4 ?hy4 ?_
                        case hi4 => (simp only [List.getElem?_toArray, List.getElem?_cons_zero, List.getElem?_cons_succ]; rfl)
                        case hq4 => exact fun _ _ _ h => h
                        case hy4 => first | (refine ry_not ?_; rfl) | (refine ry_run (by rfl) (fun w' hw' => ?_); go_simp; try rfl)
                        simp only [Act.put, List.setIfInBounds_toArray, List.set_cons_zero, List.set_cons_succ]
                        refine take0 (v := ?v5) (oi := ?o5) 4 ?hi5 (by kernel_rfl) (by kernel_rfl) (by kernel_rfl) ?hq5 ?hy5 ?_
                        case hi5 => (simp only [List.getElem?_toArray, List.getElem?_cons_zero, List.getElem?_cons_succ]; rfl)
                        case hq5 => exact fun _ _ _ h => h
                        case hy5 => first | (refine ry_not ?_; rfl) | (refine ry_run (by rfl) (fun w' hw' => ?_); go_simp; try rfl)
                        simp only [Act.put, List.setIfInBounds_toArray, List.set_cons_zero, List.set_cons_succ]
                        refine take0 (v := ?v6) (oi := ?o6) 5 ?hi6 (by kernel_rfl) (by kernel_rfl) (by kernel_rfl) ?hq6 ?hy6 ?_
                        case hi6 => (simp only [List.getElem?_toArray, List.getElem?_cons_zero, List.getElem?_cons_succ]; rfl)
                        case hq6 => exact fun _ _ _ h => h
                        case hy6 => first | (refine ry_not ?_; rfl) | (refine ry_run (by rfl) (fun w' hw' => ?_); go_simp; try rfl)
                        simp only [Act.put, List.setIfInBounds_toArray, List.set_cons_zero, List.set_cons_succ]
                        refine take0 (v := ?v7) (oi := ?o7) 6 ?hi7 (by kernel_rfl) (by kernel_rfl) (by kernel_rfl) ?hq7 ?hy7 ?_
                        case hi7 => (simp only [List.getElem?_toArray, List.getElem?_cons_zero, List.getElem?_cons_succ]; rfl)
                        case hq7 => exact fun _ _ _ h => h
                        case hy7 => first | (refine ry_not ?_; rfl) | (refine ry_run (by rfl) (fun w' hw' => ?_); go_simp; try rfl)
                        simp only [Act.put, List.setIfInBounds_toArray, List.set_cons_zero, List.set_cons_succ]
                        refine take0 (v := ?v8) (oi := ?o8) 7 ?hi8 (by kernel_rfl) (by kernel_rfl) (by kernel_rfl) ?hq8 ?hy8 ?_
                        case hi8 => (simp only [List.getElem?_toArray, List.getElem?_cons_zero, List.getElem?_cons_succ]; rfl)
                        case hq8 => exact fun _ _ _ h => h
                        case hy8 => first | (refine ry_not ?_; rfl) | (refine ry_run (by rfl) (fun w' hw' => ?_); go_simp; try rfl)
                        simp only [Act.put, List.setIfInBounds_toArray, List.set_cons_zero, List.set_cons_succ]
                        refine take0 (v := ?v9) (oi := ?o9) 8 ?hi9 (by kernel_rfl) (by kernel_rfl) (by kernel_rfl) ?hq9 ?hy9 ?_
                        case hi9 => (simp only [List.getElem?_toArray, List.getElem?_cons_zero, List.getElem?_cons_succ]; rfl)
                        case hq9 => exact fun _ _ _ h => h
                        case hy9 => first | (refine ry_not ?_; rfl) | (refine ry_run (by rfl) (fun w' hw' => ?_); go_simp; try rfl)
                        simp only [Act.put, List.setIfInBounds_toArray, List.set_cons_zero, List.set_cons_succ]
                        refine take0 (v := ?v10) (oi := ?o10) 9 ?hi10 (by kernel_rfl) (by kernel_rfl) (by kernel_rfl) ?hq10 ?hy10 ?_
                        case hi10 => (simp only [List.getElem?_toArray, List.getElem?_cons_zero, List.getElem?_cons_succ]; rfl)
                        case hq10 => exact fun _ _ _ h => h
                        case hy10 => first | (refine ry_not ?_; rfl) | (refine ry_run (by rfl) (fun w' hw' => ?_); go_simp; try rfl)
                        simp only [Act.put, List.setIfInBounds_toArray, List.set_cons_zero, List.set_cons_succ]
                        refine take0 (v := ?v11) (oi := ?o11) 10 ?hi11 (by kernel_rfl) (by kernel_rfl) (by kernel_rfl) ?hq11 ?hy11 ?_
                        case hi11 => (simp only [List.getElem?_toArray, List.getElem?_cons_zero, List.getElem?_cons_succ]; rfl)
                        case hq11 => exact fun _ _ _ h => h
                        case hy11 => first | (refine ry_not ?_; rfl) | (refine ry_run (by rfl) (fun w' hw' => ?_); go_simp; try rfl)
                        simp only [Act.put, List.setIfInBounds_toArray, List.set_cons_zero, List.set_cons_succ]
                        refine take0 (v := ?v12) (oi := ?o12) 11 ?hi12 (by kernel_rfl) (by kernel_rfl) (by kernel_rfl) ?hq12 ?hy12 ?_
                        case hi12 => (simp only [List.getElem?_toArray, List.getElem?_cons_zero, List.getElem?_cons_succ]; rfl)
                        case hq12 => exact fun _ _ _ h => h
                        case hy12 => first | (refine ry_not ?_; rfl) | (refine ry_run (by rfl) (fun w' hw' => ?_); go_simp; try rfl)
                        simp only [Act.put, List.setIfInBounds_toArray, List.set_cons_zero, List.set_cons_succ]
                        refine take0 (v := ?v13) (oi := ?o13) 12 ?hi13 (by kernel_rfl) (by kernel_rfl) (by kernel_rfl) ?hq13 ?hy13 ?_
                        case hi13 => (simp only [List.getElem?_toArray, List.getElem?_cons_zero, List.getElem?_cons_succ]; rfl)
                        case hq13 => exact fun _ _ _ h => h
                        case hy13 => first | (refine ry_not ?_; rfl) | (refine ry_run (by rfl) (fun w' hw' => ?_); go_simp; try rfl)
                        simp only [Act.put, List.setIfInBounds_toArray, List.set_cons_zero, List.set_cons_succ]
                        refine take0 (v := ?v14) (oi := ?o14) 13 ?hi14 (by kernel_rfl) (by kernel_rfl) (by kernel_rfl) ?hq14 ?hy14 ?_
                        case hi14 => (simp only [List.getElem?_toArray, List.getElem?_cons_zero, List.getElem?_cons_succ]; rfl)
                        case hq14 => exact fun _ _ _ h => h
                        case hy14 => first | (refine ry_not ?_; rfl) | (refine ry_run (by rfl) (fun w' hw' => ?_); go_simp; try rfl)
                        simp only [Act.put, List.setIfInBounds_toArray, List.set_cons_zero, List.set_cons_succ]
                        refine take0 (v := ?v15) (oi := ?o15) 14 ?hi15 (by kernel_rfl) (by kernel_rfl) (by kernel_rfl) ?hq15 ?hy15 ?_
                        case hi15 => (simp only [List.getElem?_toArray, List.getElem?_cons_zero, List.getElem?_cons_succ]; rfl)
                        case hq15 => exact fun _ _ _ h => h
                        case hy15 => first | (refine ry_not ?_; rfl) | (refine ry_run (by rfl) (fun w' hw' => ?_); go_simp; try rfl)
                        simp only [Act.put, List.setIfInBounds_toArray, List.set_cons_zero, List.set_cons_succ]
                        refine take0 (v := ?v16) (oi := ?o16) 15 ?hi16 (by kernel_rfl) (by kernel_rfl) (by kernel_rfl) ?hq16 ?hy16 ?_
                        case hi16 => (simp only [List.getElem?_toArray, List.getElem?_cons_zero, List.getElem?_cons_succ]; rfl)
                        case hq16 => exact fun _ _ _ h => h
                        case hy16 => first | (refine ry_not ?_; rfl) | (refine ry_run (by rfl) (fun w' hw' => ?_); go_simp; try rfl)
                        simp only [Act.put, List.setIfInBounds_toArray, List.set_cons_zero, List.set_cons_succ]
                        refine take0 (v := ?v17) (oi := ?o17) 16 ?hi17 (by kernel_rfl) (by kernel_rfl) (by kernel_rfl) ?hq17 ?hy17 ?_
                        case hi17 => (simp only [List.getElem?_toArray, List.getElem?_cons_zero, List.getElem?_cons_succ]; rfl)
                        case hq17 => exact fun _ _ _ h => h
                        case hy17 => first | (refine ry_not ?_; rfl) | (refine ry_run (by rfl) (fun w' hw' => ?_); go_simp; try rfl)
                        simp only [Act.put, List.setIfInBounds_toArray, List.set_cons_zero, List.set_cons_succ]
                        refine step0 (o := ?o18) 17 (by kernel_rfl) ?hi18 ?hw18 ?_
                        case hi18 => (simp only [List.getElem?_toArray, List.getElem?_cons_zero, List.getElem?_cons_succ]; rfl)
                        case hw18 => rfl
                        refine upd_step (.tmp 121) (.tmp 135) (.tmp 137) 41 rfl 3 3 (int_keyed Try.underlying3) Try.underlying41 (plainElem Try.prog 3) bk GB.length D rfl HD.out (by unfold maxLen; omega) (.int .i64 (ka * 256 + kb)) (.int .i64 ((c : Int) + 1)) (.int .i64 (ka * 256 + kb)) rfl rfl (keyOf_int_mk Try.underlying3 (wf_key (by omega))) (.lit (.int .i64 ((c : Int) + 1))) [] (plainElem_int Try.underlying3 (WalkArith.wf_i64 (by omega))) ?_
                        intro w8 hown8 hgrow8
                        refine ⟨.inr (by kernel_rfl), ?_⟩
                        simp only [Act.put, List.setIfInBounds_toArray, List.set_cons_zero, List.set_cons_succ]
                        refine wpAnyM_done (by kernel_rfl) ?_
                        clear x0 lk i0 i1
                        have hm8 : Mod (fun k => k = bk) wr w8 := Mod.grown ((Mod.refl (fun k => k = bk) wr).drew) hgrow8 (fun k hk _ => by injection hk with hk; exact hk.symm)
                        have hO8 := HO4.out.upd hm8 ⟨_, by rw [List.length_append]; exact hown8, HP.out⟩
                        have hF8 : Frames w8 (some ⟨gf, og, none⟩) cg OUT := HFR4.out.keep hm8 (fun a ha e => by
                          obtain ⟨cur, fr, hh⟩ := HFR4.out.row a ha
                          exact HO4.out.back.ne hh e.symm)
                        rw [← HGN.out] at hO8
                        have HO8 := Lib.hid hO8
                        have HF8 := Lib.hid hF8
                        clear hm8 hO8 hF8 hown8 hgrow8
                        go_wp2_with fail
                        go_roundw
                        case rel => exact ⟨j2 + 1, by go_num, by omega, HO8, HF8⟩
                        case measure => simp [intOf]; omega
                      · have ij : ¬ (j2 : Int) < (OUT.length : Int) := by omega
                        have hje : j2 = OUT.length := by omega
                        subst hje
                        have HEND := HO4
                        rw [List.take_length] at HEND
                        clear HO4 HFR4
                        have hw15 : IntKind.i64.wrap ((k2 : Int) + 1) = (k2 : Int) + 1 := by rw [IntKind.wrap_i64]; omega
                        go_wp2_with fail
                        go_roundw
                        case rel => exact ⟨k2 + 1, by go_num, by go_num, by omega, Lib.hid ⟨_, _, _, _, _, _, _, HEND.out, hl60⟩⟩
                        case measure => simp [intOf]; omega
                · have i1 : ¬ (k2 : Int) < ((N % 50 : Nat) : Int) := by omega
                  obtain ⟨lz, wt, wb, st, got, pz, Fz, hON, hln⟩ := HR2.out
                  have hLF := left_calls wr hON.both.net
                  rw [hON.bn] at hLF
                  have HLF := Lib.hid hLF
                  have HON := Lib.hid hON
                  clear hLF hON
                  go_wp2_with fail
                  refine HLF.out.mono ?_
                  rintro e w' ⟨rfl, hw⟩
                  have hw := hw.symm
                  subst hw
                  by_cases hl0 : 0 < lz.length
                  · have i2 : (0 : Int) < (lz.length : Int) := by omega
                    as_aux_lemma =>
                      have hk60 : k2 < 60 := by
                        first | omega | (obtain ⟨lz, wt, wb, st, got, pz, Fz, hON, hln⟩ := HR2.out; omega)
                      clear i1
                      try clear i2
                      have hq0 : (k2 : Int).tdiv 256 = 0 := by rw [Int.tdiv_eq_ediv_of_nonneg (by omega)]; omega
                      have hq1 : IntKind.u8.wrap (k2 : Int) = (k2 : Int) := by simp [IntKind.wrap, IntKind.bits, IntKind.signed]; omega
                      have hcv := cv_two 0 (UInt8.ofNat k2) wr
                      rw [ofNat_toNat k2 (by omega), show (((0 : UInt8).toNat : Nat) : Int) = 0 from rfl] at hcv
                      change _ = Result.ok (Value.string (kB k2)) _ at hcv
                      obtain ⟨ly, wty, wby, sty, goty, py, Fy, hOY, hly⟩ := HR2.out
                      have hA := (hOY.keep ((Mod.refl (fun _ => False) wr).alloc (.cells #[.int .u8 0, .int .u8 (k2 : Int)] 5))).ask (by omega) (kB k2) (by rw [kB_key k2 (by omega)]; exact fun h => by have := ksN_mem h; omega) rfl
                      rw [kB_key k2 (by omega), ← ksN_succ] at hA
                      have HA := Lib.hid hA
                      have HLY := Lib.hid hly
                      clear hA hOY hly HR2
                      try clear HON
                      go_wp2_with fail
                      refine HA.out.mono ?_
                      rintro e w5 ⟨Ag, cg, OUT, l3, wt3, wb3, st3, p3, F3, rfl, hfr, htw, hol, hO3, hl3, -⟩
                      have HFR := Lib.hid hfr
                      have HTW := Lib.hid htw
                      have HO3 := Lib.hid hO3
                      have hl60 : l3.length + (k2 + 1) ≤ 60 := by have := HLY.out; omega
                      clear hfr htw hO3 hl3 hcv HA HLY
                      go_wp2_with fail
                      go_loopw [18] (fun j wr => ∃ j2 : Nat, j = .int .i64 j2 ∧ j2 ≤ OUT.length ∧ Hid (OnAt bn bm bq bk L0 (ksN (k2 + 1)) (k2 + 1) l3 wt3 wb3 st3 (goty ++ OUT) (goty ++ OUT.take j2) p3 F3 w wr) ∧ Hid (Frames wr Ag cg OUT)) (fun j _ => OUT.length - (intOf j).toNat)
                      case atStart => exact ⟨0, by go_num, by omega, by rw [List.take_zero, List.append_nil]; exact HO3, HFR⟩
                      case round =>
                        obtain ⟨j2, rfl, hj2, HO4, HFR4⟩ := hrel
                        by_cases hjl : j2 < OUT.length
                        · have ij : (j2 : Int) < (OUT.length : Int) := by omega
                          have hcs := HFR4.out.cells
                          rcases hcs with hcl | ⟨gf, og, rfl, hcell⟩
                          · have hz0 := sv_len OUT; rw [hcl] at hz0; simp at hz0; omega
                          have ck := hcell j2 _ (sv_get OUT j2 hjl)
                          have hgf : gf < wr.heap.size := World.block_lt_of_cell? wr _ ck
                          have hs := HTW.out OUT[j2] (List.getElem_mem hjl)
                          have htk : OUT.take (j2 + 1) = OUT.take j2 ++ [OUT[j2]] := List.take_succ_eq_append_getElem hjl
                          obtain ⟨s, hse⟩ : ∃ s, OUT[j2] = s := ⟨_, rfl⟩
                          rw [hse] at ck hs htk
                          have x0 := fun (w' : World) (m : Mod0 wr.drew w') => ((Mod.of_drew_l m).cell (p := ⟨gf, og + j2, none⟩) hgf (fun h => h)).trans ck
                          have lk := fun (w' : World) (m : Mod0 wr.drew w') => (HO4.out.back.keep (Mod.of_drew_l m) (fun h => h)).look (keyF s) (by have := key_le s; omega)
                          have i0 : ∀ w' : World, (Instr.index 9 (.string s) (.int .i64 0)).run Try.prog w' = _ := fun w' => idx_at s 0 (by omega) w'
                          have i1 : ∀ w' : World, (Instr.index 9 (.string s) (.int .i64 1)).run Try.prog w' = _ := fun w' => idx_at s 1 (by omega) w'
                          have hkle := key_le s
                          have hlg : (goty ++ OUT.take j2).length ≤ 100000 := by
                            have h1 := HO4.out.fit.lb
                            have h2 := HO4.out.fit.lt
                            simp only [List.length_append, List.length_take] at h1 ⊢
                            omega
                          obtain ⟨GB, hGB⟩ : ∃ GB, goty ++ OUT.take j2 = GB := ⟨_, rfl⟩
                          have hgn : goty ++ OUT.take (j2 + 1) = GB ++ [s] := by rw [htk, ← List.append_assoc, hGB]
                          rw [hGB] at HO4 hlg
                          simp only [hGB] at lk
                          have hcl := cnt_le GB (keyF s)
                          obtain ⟨ka, hka⟩ : ∃ ka : Int, ((s.data.toList.getD 0 0).toNat : Int) = ka := ⟨_, rfl⟩
                          obtain ⟨kb, hkb⟩ : ∃ kb : Int, ((s.data.toList.getD 1 0).toNat : Int) = kb := ⟨_, rfl⟩
                          have hk : keyF s = ka * 256 + kb := by unfold keyF; rw [hka, hkb]
                          have hab : 0 ≤ ka ∧ ka ≤ 255 ∧ 0 ≤ kb ∧ kb ≤ 255 := by
                            have h1 := (s.data.toList.getD 0 0).toNat_lt
                            have h2 := (s.data.toList.getD 1 0).toNat_lt
                            omega
                          rw [hka] at i0
                          rw [hkb] at i1
                          have hput := fun D (hD : Counts D GB) => hD.put s
                          obtain ⟨c, hc'⟩ : ∃ c : Nat, cnt GB (keyF s) = c := ⟨_, rfl⟩
                          simp only [hc'] at lk hcl hput
                          rw [hk] at lk hkle
                          simp only [hk] at hput
                          have hw1 : IntKind.i64.wrap ka = ka := by rw [IntKind.wrap_i64]; omega
                          have hw2 : IntKind.i64.wrap kb = kb := by rw [IntKind.wrap_i64]; omega
                          have hw3 : IntKind.i64.wrap (ka * 256) = ka * 256 := by rw [IntKind.wrap_i64]; omega
                          have hw4 : IntKind.i64.wrap (ka * 256 + kb) = ka * 256 + kb := by rw [IntKind.wrap_i64]; omega
                          have hw5 : IntKind.i64.wrap ((c : Int) + 1) = (c : Int) + 1 := by rw [IntKind.wrap_i64]; omega
                          have hw6 : IntKind.i64.wrap ((j2 : Int) + 1) = (j2 : Int) + 1 := by rw [IntKind.wrap_i64]; omega
                          obtain ⟨D, hD1, hD2⟩ := HO4.out.back
                          have HD := Lib.hid (ownsMap_keep hD1 ((Mod.refl (fun _ => False) wr).drew) (fun h => h))
                          have HP := Lib.hid (hput D hD2)
                          have HGN := Lib.hid hgn
                          have ij0 : (0 : Int) ≤ (j2 : Int) := by omega
                          clear hka hkb hk hc' hput hD1 hD2 hcell htk hse hGB hgn ck
                          go_wp2_with fail
                          refine region_m (by kernel_rfl) ?_
                          simp only [List.length_cons, List.length_nil, List.replicate]
                          refine take0 (v := ?v19) (oi := ?o19) 0 ?hi19 (by kernel_rfl) (by kernel_rfl) (by kernel_rfl) ?hq19 ?hy19 ?_
                          case hi19 => (simp only [List.getElem?_toArray, List.getElem?_cons_zero, List.getElem?_cons_succ]; rfl)
                          case hq19 => exact fun _ _ _ h => h
                          case hy19 => first | (refine ry_not ?_; rfl) | (refine ry_run (by rfl) (fun w' hw' => ?_); go_simp; try rfl)
                          simp only [Act.put, List.setIfInBounds_toArray, List.set_cons_zero, List.set_cons_succ]
                          refine take0 (v := ?v20) (oi := ?o20) 1 ?hi20 (by kernel_rfl) (by kernel_rfl) (by kernel_rfl) ?hq20 ?hy20 ?_
                          case hi20 => (simp only [List.getElem?_toArray, List.getElem?_cons_zero, List.getElem?_cons_succ]; rfl)
                          case hq20 => exact fun _ _ _ h => h
                          case hy20 => first | (refine ry_not ?_; rfl) | (refine ry_run (by rfl) (fun w' hw' => ?_); go_simp; try rfl)
                          simp only [Act.put, List.setIfInBounds_toArray, List.set_cons_zero, List.set_cons_succ]
                          refine take0 (v := ?v21) (oi := ?o21) 2 ?hi21 (by kernel_rfl) (by kernel_rfl) (by kernel_rfl) ?hq21 ?hy21 ?_
                          case hi21 => (simp only [List.getElem?_toArray, List.getElem?_cons_zero, List.getElem?_cons_succ]; rfl)
                          case hq21 => exact fun _ _ _ h => h
                          case hy21 => first | (refine ry_not ?_; rfl) | (refine ry_run (by rfl) (fun w' hw' => ?_); go_simp; try rfl)
                          simp only [Act.put, List.setIfInBounds_toArray, List.set_cons_zero, List.set_cons_succ]
                          refine take0 (v := ?v22) (oi := ?o22) 3 ?hi22 (by kernel_rfl) (by kernel_rfl) (by kernel_rfl) ?hq22 ?hy22 ?_
                          case hi22 => (simp only [List.getElem?_toArray, List.getElem?_cons_zero, List.getElem?_cons_succ]; rfl)
                          case hq22 => exact fun _ _ _ h => h
                          case hy22 => first | (refine ry_not ?_; rfl) | (refine ry_run (by rfl) (fun w' hw' => ?_); go_simp; try rfl)
                          simp only [Act.put, List.setIfInBounds_toArray, List.set_cons_zero, List.set_cons_succ]
                          refine take0 (v := ?v23) (oi := ?o23) 4 ?hi23 (by kernel_rfl) (by kernel_rfl) (by kernel_rfl) ?hq23 ?hy23 ?_
                          case hi23 => (simp only [List.getElem?_toArray, List.getElem?_cons_zero, List.getElem?_cons_succ]; rfl)
                          case hq23 => exact fun _ _ _ h => h
                          case hy23 => first | (refine ry_not ?_; rfl) | (refine ry_run (by rfl) (fun w' hw' => ?_); go_simp; try rfl)
                          simp only [Act.put, List.setIfInBounds_toArray, List.set_cons_zero, List.set_cons_succ]
                          refine take0 (v := ?v24) (oi := ?o24) 5 ?hi24 (by kernel_rfl) (by kernel_rfl) (by kernel_rfl) ?hq24 ?hy24 ?_
                          case hi24 => (simp only [List.getElem?_toArray, List.getElem?_cons_zero, List.getElem?_cons_succ]; rfl)
                          case hq24 => exact fun _ _ _ h => h
                          case hy24 => first | (refine ry_not ?_; rfl) | (refine ry_run (by rfl) (fun w' hw' => ?_); go_simp; try rfl)
                          simp only [Act.put, List.setIfInBounds_toArray, List.set_cons_zero, List.set_cons_succ]
                          refine take0 (v := ?v25) (oi := ?o25) 6 ?hi25 (by kernel_rfl) (by kernel_rfl) (by kernel_rfl) ?hq25 ?hy25 ?_
                          case hi25 => (simp only [List.getElem?_toArray, List.getElem?_cons_zero, List.getElem?_cons_succ]; rfl)
                          case hq25 => exact fun _ _ _ h => h
                          case hy25 => first | (refine ry_not ?_; rfl) | (refine ry_run (by rfl) (fun w' hw' => ?_); go_simp; try rfl)
                          simp only [Act.put, List.setIfInBounds_toArray, List.set_cons_zero, List.set_cons_succ]
                          refine take0 (v := ?v26) (oi := ?o26) 7 ?hi26 (by kernel_rfl) (by kernel_rfl) (by kernel_rfl) ?hq26 ?hy26 ?_
                          case hi26 => (simp only [List.getElem?_toArray, List.getElem?_cons_zero, List.getElem?_cons_succ]; rfl)
                          case hq26 => exact fun _ _ _ h => h
                          case hy26 => first | (refine ry_not ?_; rfl) | (refine ry_run (by rfl) (fun w' hw' => ?_); go_simp; try rfl)
                          simp only [Act.put, List.setIfInBounds_toArray, List.set_cons_zero, List.set_cons_succ]
                          refine take0 (v := ?v27) (oi := ?o27) 8 ?hi27 (by kernel_rfl) (by kernel_rfl) (by kernel_rfl) ?hq27 ?hy27 ?_
                          case hi27 => (simp only [List.getElem?_toArray, List.getElem?_cons_zero, List.getElem?_cons_succ]; rfl)
                          case hq27 => exact fun _ _ _ h => h
                          case hy27 => first | (refine ry_not ?_; rfl) | (refine ry_run (by rfl) (fun w' hw' => ?_); go_simp; try rfl)
                          simp only [Act.put, List.setIfInBounds_toArray, List.set_cons_zero, List.set_cons_succ]
                          refine take0 (v := ?v28) (oi := ?o28) 9 ?hi28 (by kernel_rfl) (by kernel_rfl) (by kernel_rfl) ?hq28 ?hy28 ?_
                          case hi28 => (simp only [List.getElem?_toArray, List.getElem?_cons_zero, List.getElem?_cons_succ]; rfl)
                          case hq28 => exact fun _ _ _ h => h
                          case hy28 => first | (refine ry_not ?_; rfl) | (refine ry_run (by rfl) (fun w' hw' => ?_); go_simp; try rfl)
                          simp only [Act.put, List.setIfInBounds_toArray, List.set_cons_zero, List.set_cons_succ]
                          refine take0 (v := ?v29) (oi := ?o29) 10 ?hi29 (by kernel_rfl) (by kernel_rfl) (by kernel_rfl) ?hq29 ?hy29 ?_
                          case hi29 => (simp only [List.getElem?_toArray, List.getElem?_cons_zero, List.getElem?_cons_succ]; rfl)
                          case hq29 => exact fun _ _ _ h => h
                          case hy29 => first | (refine ry_not ?_; rfl) | (refine ry_run (by rfl) (fun w' hw' => ?_); go_simp; try rfl)
                          simp only [Act.put, List.setIfInBounds_toArray, List.set_cons_zero, List.set_cons_succ]
                          refine take0 (v := ?v30) (oi := ?o30) 11 ?hi30 (by kernel_rfl) (by kernel_rfl) (by kernel_rfl) ?hq30 ?hy30 ?_
                          case hi30 => (simp only [List.getElem?_toArray, List.getElem?_cons_zero, List.getElem?_cons_succ]; rfl)
                          case hq30 => exact fun _ _ _ h => h
                          case hy30 => first | (refine ry_not ?_; rfl) | (refine ry_run (by rfl) (fun w' hw' => ?_); go_simp; try rfl)
                          simp only [Act.put, List.setIfInBounds_toArray, List.set_cons_zero, List.set_cons_succ]
                          refine take0 (v := ?v31) (oi := ?o31) 12 ?hi31 (by kernel_rfl) (by kernel_rfl) (by kernel_rfl) ?hq31 ?hy31 ?_
                          case hi31 => (simp only [List.getElem?_toArray, List.getElem?_cons_zero, List.getElem?_cons_succ]; rfl)
                          case hq31 => exact fun _ _ _ h => h
                          case hy31 => first | (refine ry_not ?_; rfl) | (refine ry_run (by rfl) (fun w' hw' => ?_); go_simp; try rfl)
                          simp only [Act.put, List.setIfInBounds_toArray, List.set_cons_zero, List.set_cons_succ]
                          refine take0 (v := ?v32) (oi := ?o32) 13 ?hi32 (by kernel_rfl) (by kernel_rfl) (by kernel_rfl) ?hq32 ?hy32 ?_
                          case hi32 => (simp only [List.getElem?_toArray, List.getElem?_cons_zero, List.getElem?_cons_succ]; rfl)
                          case hq32 => exact fun _ _ _ h => h
                          case hy32 => first | (refine ry_not ?_; rfl) | (refine ry_run (by rfl) (fun w' hw' => ?_); go_simp; try rfl)
                          simp only [Act.put, List.setIfInBounds_toArray, List.set_cons_zero, List.set_cons_succ]
                          refine take0 (v := ?v33) (oi := ?o33) 14 ?hi33 (by kernel_rfl) (by kernel_rfl) (by kernel_rfl) ?hq33 ?hy33 ?_
                          case hi33 => (simp only [List.getElem?_toArray, List.getElem?_cons_zero, List.getElem?_cons_succ]; rfl)
                          case hq33 => exact fun _ _ _ h => h
                          case hy33 => first | (refine ry_not ?_; rfl) | (refine ry_run (by rfl) (fun w' hw' => ?_); go_simp; try rfl)
                          simp only [Act.put, List.setIfInBounds_toArray, List.set_cons_zero, List.set_cons_succ]
                          refine take0 (v := ?v34) (oi := ?o34) 15 ?hi34 (by kernel_rfl) (by kernel_rfl) (by kernel_rfl) ?hq34 ?hy34 ?_
                          case hi34 => (simp only [List.getElem?_toArray, List.getElem?_cons_zero, List.getElem?_cons_succ]; rfl)
                          case hq34 => exact fun _ _ _ h => h
                          case hy34 => first | (refine ry_not ?_; rfl) | (refine ry_run (by rfl) (fun w' hw' => ?_); go_simp; try rfl)
                          simp only [Act.put, List.setIfInBounds_toArray, List.set_cons_zero, List.set_cons_succ]
                          refine take0 (v := ?v35) (oi := ?o35) 16 ?hi35 (by kernel_rfl) (by kernel_rfl) (by kernel_rfl) ?hq35 ?hy35 ?_
                          case hi35 => (simp only [List.getElem?_toArray, List.getElem?_cons_zero, List.getElem?_cons_succ]; rfl)
                          case hq35 => exact fun _ _ _ h => h
                          case hy35 => first | (refine ry_not ?_; rfl) | (refine ry_run (by rfl) (fun w' hw' => ?_); go_simp; try rfl)
                          simp only [Act.put, List.setIfInBounds_toArray, List.set_cons_zero, List.set_cons_succ]
                          refine step0 (o := ?o36) 17 (by kernel_rfl) ?hi36 ?hw36 ?_
                          case hi36 => (simp only [List.getElem?_toArray, List.getElem?_cons_zero, List.getElem?_cons_succ]; rfl)
                          case hw36 => rfl
                          refine upd_step (.tmp 121) (.tmp 135) (.tmp 137) 41 rfl 3 3 (int_keyed Try.underlying3) Try.underlying41 (plainElem Try.prog 3) bk GB.length D rfl HD.out (by unfold maxLen; omega) (.int .i64 (ka * 256 + kb)) (.int .i64 ((c : Int) + 1)) (.int .i64 (ka * 256 + kb)) rfl rfl (keyOf_int_mk Try.underlying3 (wf_key (by omega))) (.lit (.int .i64 ((c : Int) + 1))) [] (plainElem_int Try.underlying3 (WalkArith.wf_i64 (by omega))) ?_
                          intro w8 hown8 hgrow8
                          refine ⟨.inr (by kernel_rfl), ?_⟩
                          simp only [Act.put, List.setIfInBounds_toArray, List.set_cons_zero, List.set_cons_succ]
                          refine wpAnyM_done (by kernel_rfl) ?_
                          clear x0 lk i0 i1
                          have hm8 : Mod (fun k => k = bk) wr w8 := Mod.grown ((Mod.refl (fun k => k = bk) wr).drew) hgrow8 (fun k hk _ => by injection hk with hk; exact hk.symm)
                          have hO8 := HO4.out.upd hm8 ⟨_, by rw [List.length_append]; exact hown8, HP.out⟩
                          have hF8 : Frames w8 (some ⟨gf, og, none⟩) cg OUT := HFR4.out.keep hm8 (fun a ha e => by
                            obtain ⟨cur, fr, hh⟩ := HFR4.out.row a ha
                            exact HO4.out.back.ne hh e.symm)
                          rw [← HGN.out] at hO8
                          have HO8 := Lib.hid hO8
                          have HF8 := Lib.hid hF8
                          clear hm8 hO8 hF8 hown8 hgrow8
                          go_wp2_with fail
                          go_roundw
                          case rel => exact ⟨j2 + 1, by go_num, by omega, HO8, HF8⟩
                          case measure => simp [intOf]; omega
                        · have ij : ¬ (j2 : Int) < (OUT.length : Int) := by omega
                          have hje : j2 = OUT.length := by omega
                          subst hje
                          have HEND := HO4
                          rw [List.take_length] at HEND
                          clear HO4 HFR4
                          have hw15 : IntKind.i64.wrap ((k2 : Int) + 1) = (k2 : Int) + 1 := by rw [IntKind.wrap_i64]; omega
                          go_wp2_with fail
                          go_roundw
                          case rel => exact ⟨k2 + 1, by go_num, by go_num, by omega, Lib.hid ⟨_, _, _, _, _, _, _, HEND.out, hl60⟩⟩
                          case measure => simp [intOf]; omega
                  · have i2 : ¬ (0 : Int) < (lz.length : Int) := by omega
                    as_aux_lemma =>
                      obtain rfl : lz = [] := List.eq_nil_of_length_eq_zero (by omega)
                      have HE : Hid (ERel bn bm bq bk L0 k2 0 w wr) := Lib.hid ⟨wt, wb, st, got, pz, Fz, by show OnAt _ _ _ _ _ (ksN k2 ++ []) _ _ _ _ _ _ _ _ _ _ _; rw [List.append_nil]; exact HON.out, fun h => by omega⟩
                      clear HON HR2 hln
                      go_wp2_with fail
                      clear i1 i2
                      go_loopw [19] (fun j wr => ∃ j4 : Nat, j = .int .i64 j4 ∧ j4 ≤ 3 ∧ Hid (ERel bn bm bq bk L0 k2 j4 w wr)) (fun j _ => 3 - (intOf j).toNat)
                      case atStart => exact ⟨0, by go_num, by omega, HE⟩
                      case round =>
                        obtain ⟨j4, rfl, hj4, HE4⟩ := hrel
                        by_cases hj3 : j4 < 3
                        · have i1 : (j4 : Int) < 3 := by omega
                          have hq1 : IntKind.u8.wrap (j4 : Int) = (j4 : Int) := by simp [IntKind.wrap, IntKind.bits, IntKind.signed]; omega
                          have hcv := cv_two 255 (UInt8.ofNat j4) wr
                          rw [ofNat_toNat j4 (by omega), show (((255 : UInt8).toNat : Nat) : Int) = 255 from rfl] at hcv
                          change _ = Result.ok (Value.string (eB j4)) _ at hcv
                          obtain ⟨wty, wby, sty, goty, py, Fy, hOY, hly⟩ := HE4.out
                          have hA := (hOY.keep ((Mod.refl (fun _ => False) wr).alloc (.cells #[.int .u8 255, .int .u8 (j4 : Int)] 5))).ask (by omega) (eB j4) (by
                            rw [eB_key j4 (by omega)]
                            intro h
                            rcases List.mem_append.1 h with h | h
                            · have := ksN_mem h; omega
                            · have := eK_mem h; omega) rfl
                          rw [eB_key j4 (by omega), List.append_assoc, ← eK_succ] at hA
                          have HA := Lib.hid hA
                          clear hA hOY hly HE4 HE
                          go_wp2_with fail
                          refine HA.out.mono ?_
                          rintro e w5 ⟨Ag, cg, OUT, l3, wt3, wb3, st3, p3, F3, rfl, hfr, htw, hol, hO3, hl3, hnil⟩
                          obtain ⟨rfl, rfl, rfl⟩ := hnil (by simp)
                          have HFR := Lib.hid hfr
                          have HTW := Lib.hid htw
                          have HO3 := Lib.hid hO3
                          clear hfr htw hO3 hl3 hcv HA hnil
                          go_wp2_with fail
                          go_loopw [21] (fun j wr => ∃ j2 : Nat, j = .int .i64 j2 ∧ j2 ≤ OUT.length ∧ Hid (OnAt bn bm bq bk L0 (ksN k2 ++ eK (j4 + 1)) (k2 + j4 + 1) [] [] [] st3 (goty ++ OUT) (goty ++ OUT.take j2) p3 F3 w wr) ∧ Hid (Frames wr Ag cg OUT)) (fun j _ => OUT.length - (intOf j).toNat)
                          case atStart => exact ⟨0, by go_num, by omega, by rw [List.take_zero, List.append_nil]; exact HO3, HFR⟩
                          case round =>
                            obtain ⟨j2, rfl, hj2, HO4, HFR4⟩ := hrel
                            by_cases hjl : j2 < OUT.length
                            · have ij : (j2 : Int) < (OUT.length : Int) := by omega
                              have hcs := HFR4.out.cells
                              rcases hcs with hcl | ⟨gf, og, rfl, hcell⟩
                              · have hz0 := sv_len OUT; rw [hcl] at hz0; simp at hz0; omega
                              have ck := hcell j2 _ (sv_get OUT j2 hjl)
                              have hgf : gf < wr.heap.size := World.block_lt_of_cell? wr _ ck
                              have hs := HTW.out OUT[j2] (List.getElem_mem hjl)
                              have htk : OUT.take (j2 + 1) = OUT.take j2 ++ [OUT[j2]] := List.take_succ_eq_append_getElem hjl
                              obtain ⟨s, hse⟩ : ∃ s, OUT[j2] = s := ⟨_, rfl⟩
                              rw [hse] at ck hs htk
                              have x0 := fun (w' : World) (m : Mod0 wr.drew w') => ((Mod.of_drew_l m).cell (p := ⟨gf, og + j2, none⟩) hgf (fun h => h)).trans ck
                              have lk := fun (w' : World) (m : Mod0 wr.drew w') => (HO4.out.back.keep (Mod.of_drew_l m) (fun h => h)).look (keyF s) (by have := key_le s; omega)
                              have i0 : ∀ w' : World, (Instr.index 9 (.string s) (.int .i64 0)).run Try.prog w' = _ := fun w' => idx_at s 0 (by omega) w'
                              have i1 : ∀ w' : World, (Instr.index 9 (.string s) (.int .i64 1)).run Try.prog w' = _ := fun w' => idx_at s 1 (by omega) w'
                              have hkle := key_le s
                              have hlg : (goty ++ OUT.take j2).length ≤ 100000 := by
                                have h1 := HO4.out.fit.lb
                                have h2 := HO4.out.fit.lt
                                simp only [List.length_append, List.length_take] at h1 ⊢
                                omega
                              obtain ⟨GB, hGB⟩ : ∃ GB, goty ++ OUT.take j2 = GB := ⟨_, rfl⟩
                              have hgn : goty ++ OUT.take (j2 + 1) = GB ++ [s] := by rw [htk, ← List.append_assoc, hGB]
                              rw [hGB] at HO4 hlg
                              simp only [hGB] at lk
                              have hcl := cnt_le GB (keyF s)
                              obtain ⟨ka, hka⟩ : ∃ ka : Int, ((s.data.toList.getD 0 0).toNat : Int) = ka := ⟨_, rfl⟩
                              obtain ⟨kb, hkb⟩ : ∃ kb : Int, ((s.data.toList.getD 1 0).toNat : Int) = kb := ⟨_, rfl⟩
                              have hk : keyF s = ka * 256 + kb := by unfold keyF; rw [hka, hkb]
                              have hab : 0 ≤ ka ∧ ka ≤ 255 ∧ 0 ≤ kb ∧ kb ≤ 255 := by
                                have h1 := (s.data.toList.getD 0 0).toNat_lt
                                have h2 := (s.data.toList.getD 1 0).toNat_lt
                                omega
                              rw [hka] at i0
                              rw [hkb] at i1
                              have hput := fun D (hD : Counts D GB) => hD.put s
                              obtain ⟨c, hc'⟩ : ∃ c : Nat, cnt GB (keyF s) = c := ⟨_, rfl⟩
                              simp only [hc'] at lk hcl hput
                              rw [hk] at lk hkle
                              simp only [hk] at hput
                              have hw1 : IntKind.i64.wrap ka = ka := by rw [IntKind.wrap_i64]; omega
                              have hw2 : IntKind.i64.wrap kb = kb := by rw [IntKind.wrap_i64]; omega
                              have hw3 : IntKind.i64.wrap (ka * 256) = ka * 256 := by rw [IntKind.wrap_i64]; omega
                              have hw4 : IntKind.i64.wrap (ka * 256 + kb) = ka * 256 + kb := by rw [IntKind.wrap_i64]; omega
                              have hw5 : IntKind.i64.wrap ((c : Int) + 1) = (c : Int) + 1 := by rw [IntKind.wrap_i64]; omega
                              have hw6 : IntKind.i64.wrap ((j2 : Int) + 1) = (j2 : Int) + 1 := by rw [IntKind.wrap_i64]; omega
                              obtain ⟨D, hD1, hD2⟩ := HO4.out.back
                              have HD := Lib.hid (ownsMap_keep hD1 ((Mod.refl (fun _ => False) wr).drew) (fun h => h))
                              have HP := Lib.hid (hput D hD2)
                              have HGN := Lib.hid hgn
                              have ij0 : (0 : Int) ≤ (j2 : Int) := by omega
                              clear hka hkb hk hc' hput hD1 hD2 hcell htk hse hGB hgn ck
                              go_wp2_with fail
                              refine region_m (by kernel_rfl) ?_
                              simp only [List.length_cons, List.length_nil, List.replicate]
                              refine take0 (v := ?v37) (oi := ?o37) 0 ?hi37 (by kernel_rfl) (by kernel_rfl) (by kernel_rfl) ?hq37 ?hy37 ?_
                              case hi37 => (simp only [List.getElem?_toArray, List.getElem?_cons_zero, List.getElem?_cons_succ]; rfl)
                              case hq37 => exact fun _ _ _ h => h
                              case hy37 => first | (refine ry_not ?_; rfl) | (refine ry_run (by rfl) (fun w' hw' => ?_); go_simp; try rfl)
                              simp only [Act.put, List.setIfInBounds_toArray, List.set_cons_zero, List.set_cons_succ]
                              refine take0 (v := ?v38) (oi := ?o38) 1 ?hi38 (by kernel_rfl) (by kernel_rfl) (by kernel_rfl) ?hq38 ?hy38 ?_
                              case hi38 => (simp only [List.getElem?_toArray, List.getElem?_cons_zero, List.getElem?_cons_succ]; rfl)
                              case hq38 => exact fun _ _ _ h => h
                              case hy38 => first | (refine ry_not ?_; rfl) | (refine ry_run (by rfl) (fun w' hw' => ?_); go_simp; try rfl)
                              simp only [Act.put, List.setIfInBounds_toArray, List.set_cons_zero, List.set_cons_succ]
                              refine take0 (v := ?v39) (oi := ?o39) 2 ?hi39 (by kernel_rfl) (by kernel_rfl) (by kernel_rfl) ?hq39 ?hy39 ?_
                              case hi39 => (simp only [List.getElem?_toArray, List.getElem?_cons_zero, List.getElem?_cons_succ]; rfl)
                              case hq39 => exact fun _ _ _ h => h
                              case hy39 => first | (refine ry_not ?_; rfl) | (refine ry_run (by rfl) (fun w' hw' => ?_); go_simp; try rfl)
                              simp only [Act.put, List.setIfInBounds_toArray, List.set_cons_zero, List.set_cons_succ]
                              refine take0 (v := ?v40) (oi := ?o40) 3 ?hi40 (by kernel_rfl) (by kernel_rfl) (by kernel_rfl) ?hq40 ?hy40 ?_
                              case hi40 => (simp only [List.getElem?_toArray, List.getElem?_cons_zero, List.getElem?_cons_succ]; rfl)
                              case hq40 => exact fun _ _ _ h => h
                              case hy40 => first | (refine ry_not ?_; rfl) | (refine ry_run (by rfl) (fun w' hw' => ?_); go_simp; try rfl)
                              simp only [Act.put, List.setIfInBounds_toArray, List.set_cons_zero, List.set_cons_succ]
                              refine take0 (v := ?v41) (oi := ?o41) 4 ?hi41 (by kernel_rfl) (by kernel_rfl) (by kernel_rfl) ?hq41 ?hy41 ?_
                              case hi41 => (simp only [List.getElem?_toArray, List.getElem?_cons_zero, List.getElem?_cons_succ]; rfl)
                              case hq41 => exact fun _ _ _ h => h
                              case hy41 => first | (refine ry_not ?_; rfl) | (refine ry_run (by rfl) (fun w' hw' => ?_); go_simp; try rfl)
                              simp only [Act.put, List.setIfInBounds_toArray, List.set_cons_zero, List.set_cons_succ]
                              refine take0 (v := ?v42) (oi := ?o42) 5 ?hi42 (by kernel_rfl) (by kernel_rfl) (by kernel_rfl) ?hq42 ?hy42 ?_
                              case hi42 => (simp only [List.getElem?_toArray, List.getElem?_cons_zero, List.getElem?_cons_succ]; rfl)
                              case hq42 => exact fun _ _ _ h => h
                              case hy42 => first | (refine ry_not ?_; rfl) | (refine ry_run (by rfl) (fun w' hw' => ?_); go_simp; try rfl)
                              simp only [Act.put, List.setIfInBounds_toArray, List.set_cons_zero, List.set_cons_succ]
                              refine take0 (v := ?v43) (oi := ?o43) 6 ?hi43 (by kernel_rfl) (by kernel_rfl) (by kernel_rfl) ?hq43 ?hy43 ?_
                              case hi43 => (simp only [List.getElem?_toArray, List.getElem?_cons_zero, List.getElem?_cons_succ]; rfl)
                              case hq43 => exact fun _ _ _ h => h
                              case hy43 => first | (refine ry_not ?_; rfl) | (refine ry_run (by rfl) (fun w' hw' => ?_); go_simp; try rfl)
                              simp only [Act.put, List.setIfInBounds_toArray, List.set_cons_zero, List.set_cons_succ]
                              refine take0 (v := ?v44) (oi := ?o44) 7 ?hi44 (by kernel_rfl) (by kernel_rfl) (by kernel_rfl) ?hq44 ?hy44 ?_
                              case hi44 => (simp only [List.getElem?_toArray, List.getElem?_cons_zero, List.getElem?_cons_succ]; rfl)
                              case hq44 => exact fun _ _ _ h => h
                              case hy44 => first | (refine ry_not ?_; rfl) | (refine ry_run (by rfl) (fun w' hw' => ?_); go_simp; try rfl)
                              simp only [Act.put, List.setIfInBounds_toArray, List.set_cons_zero, List.set_cons_succ]
                              refine take0 (v := ?v45) (oi := ?o45) 8 ?hi45 (by kernel_rfl) (by kernel_rfl) (by kernel_rfl) ?hq45 ?hy45 ?_
                              case hi45 => (simp only [List.getElem?_toArray, List.getElem?_cons_zero, List.getElem?_cons_succ]; rfl)
                              case hq45 => exact fun _ _ _ h => h
                              case hy45 => first | (refine ry_not ?_; rfl) | (refine ry_run (by rfl) (fun w' hw' => ?_); go_simp; try rfl)
                              simp only [Act.put, List.setIfInBounds_toArray, List.set_cons_zero, List.set_cons_succ]
                              refine take0 (v := ?v46) (oi := ?o46) 9 ?hi46 (by kernel_rfl) (by kernel_rfl) (by kernel_rfl) ?hq46 ?hy46 ?_
                              case hi46 => (simp only [List.getElem?_toArray, List.getElem?_cons_zero, List.getElem?_cons_succ]; rfl)
                              case hq46 => exact fun _ _ _ h => h
                              case hy46 => first | (refine ry_not ?_; rfl) | (refine ry_run (by rfl) (fun w' hw' => ?_); go_simp; try rfl)
                              simp only [Act.put, List.setIfInBounds_toArray, List.set_cons_zero, List.set_cons_succ]
                              refine take0 (v := ?v47) (oi := ?o47) 10 ?hi47 (by kernel_rfl) (by kernel_rfl) (by kernel_rfl) ?hq47 ?hy47 ?_
                              case hi47 => (simp only [List.getElem?_toArray, List.getElem?_cons_zero, List.getElem?_cons_succ]; rfl)
                              case hq47 => exact fun _ _ _ h => h
                              case hy47 => first | (refine ry_not ?_; rfl) | (refine ry_run (by rfl) (fun w' hw' => ?_); go_simp; try rfl)
                              simp only [Act.put, List.setIfInBounds_toArray, List.set_cons_zero, List.set_cons_succ]
                              refine take0 (v := ?v48) (oi := ?o48) 11 ?hi48 (by kernel_rfl) (by kernel_rfl) (by kernel_rfl) ?hq48 ?hy48 ?_
                              case hi48 => (simp only [List.getElem?_toArray, List.getElem?_cons_zero, List.getElem?_cons_succ]; rfl)
                              case hq48 => exact fun _ _ _ h => h
                              case hy48 => first | (refine ry_not ?_; rfl) | (refine ry_run (by rfl) (fun w' hw' => ?_); go_simp; try rfl)
                              simp only [Act.put, List.setIfInBounds_toArray, List.set_cons_zero, List.set_cons_succ]
                              refine take0 (v := ?v49) (oi := ?o49) 12 ?hi49 (by kernel_rfl) (by kernel_rfl) (by kernel_rfl) ?hq49 ?hy49 ?_
                              case hi49 => (simp only [List.getElem?_toArray, List.getElem?_cons_zero, List.getElem?_cons_succ]; rfl)
                              case hq49 => exact fun _ _ _ h => h
                              case hy49 => first | (refine ry_not ?_; rfl) | (refine ry_run (by rfl) (fun w' hw' => ?_); go_simp; try rfl)
                              simp only [Act.put, List.setIfInBounds_toArray, List.set_cons_zero, List.set_cons_succ]
                              refine take0 (v := ?v50) (oi := ?o50) 13 ?hi50 (by kernel_rfl) (by kernel_rfl) (by kernel_rfl) ?hq50 ?hy50 ?_
                              case hi50 => (simp only [List.getElem?_toArray, List.getElem?_cons_zero, List.getElem?_cons_succ]; rfl)
                              case hq50 => exact fun _ _ _ h => h
                              case hy50 => first | (refine ry_not ?_; rfl) | (refine ry_run (by rfl) (fun w' hw' => ?_); go_simp; try rfl)
                              simp only [Act.put, List.setIfInBounds_toArray, List.set_cons_zero, List.set_cons_succ]
                              refine take0 (v := ?v51) (oi := ?o51) 14 ?hi51 (by kernel_rfl) (by kernel_rfl) (by kernel_rfl) ?hq51 ?hy51 ?_
                              case hi51 => (simp only [List.getElem?_toArray, List.getElem?_cons_zero, List.getElem?_cons_succ]; rfl)
                              case hq51 => exact fun _ _ _ h => h
                              case hy51 => first | (refine ry_not ?_; rfl) | (refine ry_run (by rfl) (fun w' hw' => ?_); go_simp; try rfl)
                              simp only [Act.put, List.setIfInBounds_toArray, List.set_cons_zero, List.set_cons_succ]
                              refine take0 (v := ?v52) (oi := ?o52) 15 ?hi52 (by kernel_rfl) (by kernel_rfl) (by kernel_rfl) ?hq52 ?hy52 ?_
                              case hi52 => (simp only [List.getElem?_toArray, List.getElem?_cons_zero, List.getElem?_cons_succ]; rfl)
                              case hq52 => exact fun _ _ _ h => h
                              case hy52 => first | (refine ry_not ?_; rfl) | (refine ry_run (by rfl) (fun w' hw' => ?_); go_simp; try rfl)
                              simp only [Act.put, List.setIfInBounds_toArray, List.set_cons_zero, List.set_cons_succ]
                              refine take0 (v := ?v53) (oi := ?o53) 16 ?hi53 (by kernel_rfl) (by kernel_rfl) (by kernel_rfl) ?hq53 ?hy53 ?_
                              case hi53 => (simp only [List.getElem?_toArray, List.getElem?_cons_zero, List.getElem?_cons_succ]; rfl)
                              case hq53 => exact fun _ _ _ h => h
                              case hy53 => first | (refine ry_not ?_; rfl) | (refine ry_run (by rfl) (fun w' hw' => ?_); go_simp; try rfl)
                              simp only [Act.put, List.setIfInBounds_toArray, List.set_cons_zero, List.set_cons_succ]
                              refine step0 (o := ?o54) 17 (by kernel_rfl) ?hi54 ?hw54 ?_
                              case hi54 => (simp only [List.getElem?_toArray, List.getElem?_cons_zero, List.getElem?_cons_succ]; rfl)
                              case hw54 => rfl
                              refine upd_step (.tmp 156) (.tmp 170) (.tmp 172) 41 rfl 3 3 (int_keyed Try.underlying3) Try.underlying41 (plainElem Try.prog 3) bk GB.length D rfl HD.out (by unfold maxLen; omega) (.int .i64 (ka * 256 + kb)) (.int .i64 ((c : Int) + 1)) (.int .i64 (ka * 256 + kb)) rfl rfl (keyOf_int_mk Try.underlying3 (wf_key (by omega))) (.lit (.int .i64 ((c : Int) + 1))) [] (plainElem_int Try.underlying3 (WalkArith.wf_i64 (by omega))) ?_
                              intro w8 hown8 hgrow8
                              refine ⟨.inr (by kernel_rfl), ?_⟩
                              simp only [Act.put, List.setIfInBounds_toArray, List.set_cons_zero, List.set_cons_succ]
                              refine wpAnyM_done (by kernel_rfl) ?_
                              clear x0 lk i0 i1
                              have hm8 : Mod (fun k => k = bk) wr w8 := Mod.grown ((Mod.refl (fun k => k = bk) wr).drew) hgrow8 (fun k hk _ => by injection hk with hk; exact hk.symm)
                              have hO8 := HO4.out.upd hm8 ⟨_, by rw [List.length_append]; exact hown8, HP.out⟩
                              have hF8 : Frames w8 (some ⟨gf, og, none⟩) cg OUT := HFR4.out.keep hm8 (fun a ha e => by
                                obtain ⟨cur, fr, hh⟩ := HFR4.out.row a ha
                                exact HO4.out.back.ne hh e.symm)
                              rw [← HGN.out] at hO8
                              have HO8 := Lib.hid hO8
                              have HF8 := Lib.hid hF8
                              clear hm8 hO8 hF8 hown8 hgrow8
                              go_wp2_with fail
                              go_roundw
                              case rel => exact ⟨j2 + 1, by go_num, by omega, HO8, HF8⟩
                              case measure => simp [intOf]; omega
                            · have ij : ¬ (j2 : Int) < (OUT.length : Int) := by omega
                              have hje : j2 = OUT.length := by omega
                              subst hje
                              have HEND := HO4
                              rw [List.take_length] at HEND
                              clear HO4 HFR4
                              have hw15 : IntKind.i64.wrap ((j4 : Int) + 1) = (j4 : Int) + 1 := by rw [IntKind.wrap_i64]; omega
                              go_wp2_with fail
                              go_roundw
                              case rel => exact ⟨j4 + 1, by go_num, by omega, Lib.hid ⟨_, _, _, _, _, _, HEND.out, fun _ => ⟨rfl, rfl⟩⟩⟩
                              case measure => simp [intOf]; omega
                        · have i1 : ¬ (j4 : Int) < 3 := by omega
                          obtain ⟨wty, wby, sty, goty, py, Fy, hOY, hly⟩ := HE4.out
                          obtain ⟨rfl, rfl⟩ := hly (by omega)
                          obtain ⟨e1, e2, e3⟩ := hOY.fit.ends
                          have HE5 := Lib.hid (And.intro e1 (And.intro e2 e3))
                          have HO5 := Lib.hid hOY
                          clear hOY hly HE4 HE e1 e2 e3
                          go_wp2_with fail
                          clear i1
                          go_loopw [22, 23] (fun gv j wr => ∃ i6 : Nat, gv = .int .i64 (gone goty i6 : Nat) ∧ j = .int .i64 i6 ∧ i6 ≤ k2 ∧ Hid (OnAt bn bm bq bk L0 (ksN k2 ++ eK j4) (k2 + j4) [] [] [] sty goty goty py Fy w wr)) (fun _ j _ => k2 - (intOf j).toNat)
                          case atStart => exact ⟨0, by go_num, by go_num, by omega, HO5⟩
                          case round =>
                            obtain ⟨i6, rfl, rfl, hi6, HO6⟩ := hrel
                            by_cases hik : i6 < k2
                            · have i1 : (i6 : Int) < (k2 : Int) := by omega
                              have g1 := HE5.out.1 (i6 : Int)
                              have g2 := HE5.out.2.1 (i6 : Int)
                              have x0 := HO6.out.both.srv.1.box.cell (o := 0) rfl
                              have lk1 := HO6.out.both.srv.1.map.look (i6 : Int) (by omega)
                              have lk2 := HO6.out.back.look (i6 : Int) (by omega)
                              have j1 : ¬ (2 : Int) < (cnt sty (i6 : Int) : Int) := by omega
                              have j2 : ¬ (4 : Int) < (cnt goty (i6 : Int) : Int) := by omega
                              have hgs := gone_succ goty i6
                              have hgl := gone_le goty i6
                              have hw1 : IntKind.i64.wrap ((i6 : Int) + 1) = (i6 : Int) + 1 := by rw [IntKind.wrap_i64]; omega
                              have hw2 : IntKind.i64.wrap ((gone goty i6 : Int) + 1) = (gone goty i6 : Int) + 1 := by rw [IntKind.wrap_i64]; omega
                              by_cases hz0 : cnt goty (i6 : Int) = 0
                              · have b0 : ((cnt goty (i6 : Int) : Int) == 0) = true := by rw [hz0]; rfl
                                rw [if_pos hz0] at hgs
                                clear g1 g2
                                go_wp2_with fail
                                go_roundw
                                case rel => exact ⟨i6 + 1, by rw [hgs]; go_num, by go_num, by omega, HO6⟩
                                case measure => simp [intOf]; omega
                              · have b0 : ((cnt goty (i6 : Int) : Int) == 0) = false := by simpa using hz0
                                rw [if_neg hz0] at hgs
                                clear g1 g2
                                go_wp2_with fail
                                go_roundw
                                case rel => exact ⟨i6 + 1, by rw [hgs]; go_num, by go_num, by omega, HO6⟩
                                case measure => simp [intOf]; omega
                            · have i1 : ¬ (i6 : Int) < (k2 : Int) := by omega
                              obtain rfl : i6 = k2 := by omega
                              have g3 : (gone goty i6 : Int) ≤ (L0 : Int) := by have h := HE5.out.2.2; unfold gone; omega
                              have HMW := Lib.hid HO6.out.mod
                              clear HO6 HE5 HO5
                              go_wp2_with fail
                              go_ret
                              exact ⟨rfl, HMW.out.below (fun _ _ h => h)⟩
        · have i1 : ¬ (k : Int) < (l.length : Int) := by omega
          as_aux_lemma =>
            obtain ⟨A3, c3, rfl, hF3, hb3⟩ := own_fates HO.out
            have hm3 := Mod.trans HM1.out HM.out (fun _ _ h => h)
            have hz3 := HM.out.size
            have hz1 := HM1.out.size
            have HF3 := Lib.hid hF3
            have HM3 := Lib.hid hm3
            have hml : loses fl ≤ fl.length := loses_le fl
            clear hF3 hb3 hm3 HO HM
            go_wp2_with fail
            clear i1
            try clear i2
            have HOW := Lib.hid (Int.le_refl 0)
            have hm4 : Mod (fun _ => False) wr (((wr.alloc (.map #[] 0)).alloc (.cells #[.map (some wr.heap.size)] 41)).alloc (.map #[] 0)) := (((Mod.refl _ _).alloc _).alloc _).alloc _
            have hbx : Has (((wr.alloc (.map #[] 0)).alloc (.cells #[.map (some wr.heap.size)] 41)).alloc (.map #[] 0)) (wr.heap.size + 1) [.map (some wr.heap.size)] 41 := (Has.lit (by simp)).alloc _
            have hmp : MpAt wr.heap.size [] (((wr.alloc (.map #[] 0)).alloc (.cells #[.map (some wr.heap.size)] 41)).alloc (.map #[] 0)) := MpAt.keep ⟨.map [], World.ownsMap_made (H := Unit) wr Try.prog 3 (plainElem Try.prog 3), Counts.nil⟩ (((Mod.refl (fun _ => False) _).alloc _).alloc _) (fun h => h)
            have hbk : MpAt (wr.heap.size + 2) [] (((wr.alloc (.map #[] 0)).alloc (.cells #[.map (some wr.heap.size)] 41)).alloc (.map #[] 0)) := ⟨.map [], by
              have h := World.ownsMap_made (H := Unit) ((wr.alloc (.map #[] 0)).alloc (.cells #[.map (some wr.heap.size)] 41)) Try.prog 3 (plainElem Try.prog 3)
              simpa using h, Counts.nil⟩
            have HX4 := Lib.hid (And.intro hm4 (And.intro hbx (And.intro hmp hbk)))
            clear hm4 hbx hmp hbk
            refine (new_calls 18 #[.pointer (some ⟨wr.heap.size + 1, 0, none⟩)] A3 c3 fl _ (HF3.out.cells.keep HX4.out.1 (fun _ _ h => h)) HF3.out.cap HF3.out.max HG.out.2.2 (by omega)).mono ?_
            rintro e w4 ⟨p, rfl, hN4, hfp4, hm5⟩
            obtain ⟨hm4, hbx, hmp, hbk⟩ := HX4.out
            have hrel : OnRel p.bn (wr.heap.size + 1) wr.heap.size (wr.heap.size + 2) (loses fl) (ksN 0) 0 60 w w4 :=
              ⟨fl, [], [], [], [], p, fun k => k = wr.heap.size + 1 ∨ k = wr.heap.size, ⟨⟨hN4, ⟨⟨hbx.keep hm5 (fun h => h), hmp.keep hm5 (fun h => h), by omega⟩, rfl⟩, fun k hk h => by
                  have := hfp4 k hk
                  simp only [size_alloc] at this
                  omega⟩, rfl, hbk.keep hm5 (fun h => h), ⟨fun h => by have := hfp4 _ h; simp only [size_alloc] at this; omega, by omega⟩, Fit.nil fl HG.out.2.1 HG.out.1, fun i hi => by have := hfp4 i hi; simp only [size_alloc] at this; omega, by omega, Mod.trans HM3.out (Mod.trans hm4 hm5 (fun _ _ h => h)) (fun _ _ h => h)⟩, by omega⟩
            have HR := Lib.hid hrel
            have hbx3 : wr.heap.size + 2 < w4.heap.size := (hbk.keep hm5 (fun h => h)).lt
            clear hrel hN4 hfp4 hm4 hm5 hbx hmp hbk HF3 HX4 HM3 HG HOW hml
            go_wp2_with fail
            generalize p.bn = bn at *
            generalize loses fl = L0 at *
            try simp only [Nat.add_assoc, Nat.reduceAdd]
            generalize hbm : wr.heap.size + 1 = bm at *
            generalize hbk : wr.heap.size + 2 = bk at *
            generalize hbq : wr.heap.size = bq at *
            go_loopw [15, 16] (fun al i wr => ∃ k : Nat, al = .int .i64 k ∧ i = .int .i64 k ∧ k ≤ 60 ∧ Hid (OnRel bn bm bq bk L0 (ksN k) k 60 w wr)) (fun _ i _ => 60 - (intOf i).toNat)
            case atStart => exact ⟨0, by go_num, by go_num, by omega, HR⟩
            case round =>
              obtain ⟨k2, rfl, rfl, hk2, HR2⟩ := hrel
              by_cases hkM : k2 < N % 50
              · have i1 : (k2 : Int) < ((N % 50 : Nat) : Int) := by omega
                as_aux_lemma =>
                  have hk60 : k2 < 60 := by
                    first | omega | (obtain ⟨lz, wt, wb, st, got, pz, Fz, hON, hln⟩ := HR2.out; omega)
                  clear i1
                  try clear i2
                  have hq0 : (k2 : Int).tdiv 256 = 0 := by rw [Int.tdiv_eq_ediv_of_nonneg (by omega)]; omega
                  have hq1 : IntKind.u8.wrap (k2 : Int) = (k2 : Int) := by simp [IntKind.wrap, IntKind.bits, IntKind.signed]; omega
                  have hcv := cv_two 0 (UInt8.ofNat k2) wr
                  rw [ofNat_toNat k2 (by omega), show (((0 : UInt8).toNat : Nat) : Int) = 0 from rfl] at hcv
                  change _ = Result.ok (Value.string (kB k2)) _ at hcv
                  obtain ⟨ly, wty, wby, sty, goty, py, Fy, hOY, hly⟩ := HR2.out
                  have hA := (hOY.keep ((Mod.refl (fun _ => False) wr).alloc (.cells #[.int .u8 0, .int .u8 (k2 : Int)] 5))).ask (by omega) (kB k2) (by rw [kB_key k2 (by omega)]; exact fun h => by have := ksN_mem h; omega) rfl
                  rw [kB_key k2 (by omega), ← ksN_succ] at hA
                  have HA := Lib.hid hA
                  have HLY := Lib.hid hly
                  clear hA hOY hly HR2
                  try clear HON
                  go_wp2_with fail
                  refine HA.out.mono ?_
                  rintro e w5 ⟨Ag, cg, OUT, l3, wt3, wb3, st3, p3, F3, rfl, hfr, htw, hol, hO3, hl3, -⟩
                  have HFR := Lib.hid hfr
                  have HTW := Lib.hid htw
                  have HO3 := Lib.hid hO3
                  have hl60 : l3.length + (k2 + 1) ≤ 60 := by have := HLY.out; omega
                  clear hfr htw hO3 hl3 hcv HA HLY
                  go_wp2_with fail
                  go_loopw [18] (fun j wr => ∃ j2 : Nat, j = .int .i64 j2 ∧ j2 ≤ OUT.length ∧ Hid (OnAt bn bm bq bk L0 (ksN (k2 + 1)) (k2 + 1) l3 wt3 wb3 st3 (goty ++ OUT) (goty ++ OUT.take j2) p3 F3 w wr) ∧ Hid (Frames wr Ag cg OUT)) (fun j _ => OUT.length - (intOf j).toNat)
                  case atStart => exact ⟨0, by go_num, by omega, by rw [List.take_zero, List.append_nil]; exact HO3, HFR⟩
                  case round =>
                    obtain ⟨j2, rfl, hj2, HO4, HFR4⟩ := hrel
                    by_cases hjl : j2 < OUT.length
                    · have ij : (j2 : Int) < (OUT.length : Int) := by omega
                      have hcs := HFR4.out.cells
                      rcases hcs with hcl | ⟨gf, og, rfl, hcell⟩
                      · have hz0 := sv_len OUT; rw [hcl] at hz0; simp at hz0; omega
                      have ck := hcell j2 _ (sv_get OUT j2 hjl)
                      have hgf : gf < wr.heap.size := World.block_lt_of_cell? wr _ ck
                      have hs := HTW.out OUT[j2] (List.getElem_mem hjl)
                      have htk : OUT.take (j2 + 1) = OUT.take j2 ++ [OUT[j2]] := List.take_succ_eq_append_getElem hjl
                      obtain ⟨s, hse⟩ : ∃ s, OUT[j2] = s := ⟨_, rfl⟩
                      rw [hse] at ck hs htk
                      have x0 := fun (w' : World) (m : Mod0 wr.drew w') => ((Mod.of_drew_l m).cell (p := ⟨gf, og + j2, none⟩) hgf (fun h => h)).trans ck
                      have lk := fun (w' : World) (m : Mod0 wr.drew w') => (HO4.out.back.keep (Mod.of_drew_l m) (fun h => h)).look (keyF s) (by have := key_le s; omega)
                      have i0 : ∀ w' : World, (Instr.index 9 (.string s) (.int .i64 0)).run Try.prog w' = _ := fun w' => idx_at s 0 (by omega) w'
                      have i1 : ∀ w' : World, (Instr.index 9 (.string s) (.int .i64 1)).run Try.prog w' = _ := fun w' => idx_at s 1 (by omega) w'
                      have hkle := key_le s
                      have hlg : (goty ++ OUT.take j2).length ≤ 100000 := by
                        have h1 := HO4.out.fit.lb
                        have h2 := HO4.out.fit.lt
                        simp only [List.length_append, List.length_take] at h1 ⊢
                        omega
                      obtain ⟨GB, hGB⟩ : ∃ GB, goty ++ OUT.take j2 = GB := ⟨_, rfl⟩
                      have hgn : goty ++ OUT.take (j2 + 1) = GB ++ [s] := by rw [htk, ← List.append_assoc, hGB]
                      rw [hGB] at HO4 hlg
                      simp only [hGB] at lk
                      have hcl := cnt_le GB (keyF s)
                      obtain ⟨ka, hka⟩ : ∃ ka : Int, ((s.data.toList.getD 0 0).toNat : Int) = ka := ⟨_, rfl⟩
                      obtain ⟨kb, hkb⟩ : ∃ kb : Int, ((s.data.toList.getD 1 0).toNat : Int) = kb := ⟨_, rfl⟩
                      have hk : keyF s = ka * 256 + kb := by unfold keyF; rw [hka, hkb]
                      have hab : 0 ≤ ka ∧ ka ≤ 255 ∧ 0 ≤ kb ∧ kb ≤ 255 := by
                        have h1 := (s.data.toList.getD 0 0).toNat_lt
                        have h2 := (s.data.toList.getD 1 0).toNat_lt
                        omega
                      rw [hka] at i0
                      rw [hkb] at i1
                      have hput := fun D (hD : Counts D GB) => hD.put s
                      obtain ⟨c, hc'⟩ : ∃ c : Nat, cnt GB (keyF s) = c := ⟨_, rfl⟩
                      simp only [hc'] at lk hcl hput
                      rw [hk] at lk hkle
                      simp only [hk] at hput
                      have hw1 : IntKind.i64.wrap ka = ka := by rw [IntKind.wrap_i64]; omega
                      have hw2 : IntKind.i64.wrap kb = kb := by rw [IntKind.wrap_i64]; omega
                      have hw3 : IntKind.i64.wrap (ka * 256) = ka * 256 := by rw [IntKind.wrap_i64]; omega
                      have hw4 : IntKind.i64.wrap (ka * 256 + kb) = ka * 256 + kb := by rw [IntKind.wrap_i64]; omega
                      have hw5 : IntKind.i64.wrap ((c : Int) + 1) = (c : Int) + 1 := by rw [IntKind.wrap_i64]; omega
                      have hw6 : IntKind.i64.wrap ((j2 : Int) + 1) = (j2 : Int) + 1 := by rw [IntKind.wrap_i64]; omega
                      obtain ⟨D, hD1, hD2⟩ := HO4.out.back
                      have HD := Lib.hid (ownsMap_keep hD1 ((Mod.refl (fun _ => False) wr).drew) (fun h => h))
                      have HP := Lib.hid (hput D hD2)
                      have HGN := Lib.hid hgn
                      have ij0 : (0 : Int) ≤ (j2 : Int) := by omega
                      clear hka hkb hk hc' hput hD1 hD2 hcell htk hse hGB hgn ck
                      go_wp2_with fail
                      refine region_m (by kernel_rfl) ?_
                      simp only [List.length_cons, List.length_nil, List.replicate]
                      refine take0 (v := ?v55) (oi := ?o55) 0 ?hi55 (by kernel_rfl) (by kernel_rfl) (by kernel_rfl) ?hq55 ?hy55 ?_
                      case hi55 => (simp only [List.getElem?_toArray, List.getElem?_cons_zero, List.getElem?_cons_succ]; rfl)
                      case hq55 => exact fun _ _ _ h => h
                      case hy55 => first | (refine ry_not ?_; rfl) | (refine ry_run (by rfl) (fun w' hw' => ?_); go_simp; try rfl)
                      simp only [Act.put, List.setIfInBounds_toArray, List.set_cons_zero, List.set_cons_succ]
                      refine take0 (v := ?v56) (oi := ?o56) 1 ?hi56 (by kernel_rfl) (by kernel_rfl) (by kernel_rfl) ?hq56 ?hy56 ?_
                      case hi56 => (simp only [List.getElem?_toArray, List.getElem?_cons_zero, List.getElem?_cons_succ]; rfl)
                      case hq56 => exact fun _ _ _ h => h
                      case hy56 => first | (refine ry_not ?_; rfl) | (refine ry_run (by rfl) (fun w' hw' => ?_); go_simp; try rfl)
                      simp only [Act.put, List.setIfInBounds_toArray, List.set_cons_zero, List.set_cons_succ]
                      refine take0 (v := ?v57) (oi := ?o57) 2 ?hi57 (by kernel_rfl) (by kernel_rfl) (by kernel_rfl) ?hq57 ?hy57 ?_
                      case hi57 => (simp only [List.getElem?_toArray, List.getElem?_cons_zero, List.getElem?_cons_succ]; rfl)
                      case hq57 => exact fun _ _ _ h => h
                      case hy57 => first | (refine ry_not ?_; rfl) | (refine ry_run (by rfl) (fun w' hw' => ?_); go_simp; try rfl)
                      simp only [Act.put, List.setIfInBounds_toArray, List.set_cons_zero, List.set_cons_succ]
                      refine take0 (v := ?v58) (oi := ?o58) 3 ?hi58 (by kernel_rfl) (by kernel_rfl) (by kernel_rfl) ?hq58 ?hy58 ?_
                      case hi58 => (simp only [List.getElem?_toArray, List.getElem?_cons_zero, List.getElem?_cons_succ]; rfl)
                      case hq58 => exact fun _ _ _ h => h
                      case hy58 => first | (refine ry_not ?_; rfl) | (refine ry_run (by rfl) (fun w' hw' => ?_); go_simp; try rfl)
                      simp only [Act.put, List.setIfInBounds_toArray, List.set_cons_zero, List.set_cons_succ]
                      refine take0 (v := ?v59) (oi := ?o59) 4 ?hi59 (by kernel_rfl) (by kernel_rfl) (by kernel_rfl) ?hq59 ?hy59 ?_
                      case hi59 => (simp only [List.getElem?_toArray, List.getElem?_cons_zero, List.getElem?_cons_succ]; rfl)
                      case hq59 => exact fun _ _ _ h => h
                      case hy59 => first | (refine ry_not ?_; rfl) | (refine ry_run (by rfl) (fun w' hw' => ?_); go_simp; try rfl)
                      simp only [Act.put, List.setIfInBounds_toArray, List.set_cons_zero, List.set_cons_succ]
                      refine take0 (v := ?v60) (oi := ?o60) 5 ?hi60 (by kernel_rfl) (by kernel_rfl) (by kernel_rfl) ?hq60 ?hy60 ?_
                      case hi60 => (simp only [List.getElem?_toArray, List.getElem?_cons_zero, List.getElem?_cons_succ]; rfl)
                      case hq60 => exact fun _ _ _ h => h
                      case hy60 => first | (refine ry_not ?_; rfl) | (refine ry_run (by rfl) (fun w' hw' => ?_); go_simp; try rfl)
                      simp only [Act.put, List.setIfInBounds_toArray, List.set_cons_zero, List.set_cons_succ]
                      refine take0 (v := ?v61) (oi := ?o61) 6 ?hi61 (by kernel_rfl) (by kernel_rfl) (by kernel_rfl) ?hq61 ?hy61 ?_
                      case hi61 => (simp only [List.getElem?_toArray, List.getElem?_cons_zero, List.getElem?_cons_succ]; rfl)
                      case hq61 => exact fun _ _ _ h => h
                      case hy61 => first | (refine ry_not ?_; rfl) | (refine ry_run (by rfl) (fun w' hw' => ?_); go_simp; try rfl)
                      simp only [Act.put, List.setIfInBounds_toArray, List.set_cons_zero, List.set_cons_succ]
                      refine take0 (v := ?v62) (oi := ?o62) 7 ?hi62 (by kernel_rfl) (by kernel_rfl) (by kernel_rfl) ?hq62 ?hy62 ?_
                      case hi62 => (simp only [List.getElem?_toArray, List.getElem?_cons_zero, List.getElem?_cons_succ]; rfl)
                      case hq62 => exact fun _ _ _ h => h
                      case hy62 => first | (refine ry_not ?_; rfl) | (refine ry_run (by rfl) (fun w' hw' => ?_); go_simp; try rfl)
                      simp only [Act.put, List.setIfInBounds_toArray, List.set_cons_zero, List.set_cons_succ]
                      refine take0 (v := ?v63) (oi := ?o63) 8 ?hi63 (by kernel_rfl) (by kernel_rfl) (by kernel_rfl) ?hq63 ?hy63 ?_
                      case hi63 => (simp only [List.getElem?_toArray, List.getElem?_cons_zero, List.getElem?_cons_succ]; rfl)
                      case hq63 => exact fun _ _ _ h => h
                      case hy63 => first | (refine ry_not ?_; rfl) | (refine ry_run (by rfl) (fun w' hw' => ?_); go_simp; try rfl)
                      simp only [Act.put, List.setIfInBounds_toArray, List.set_cons_zero, List.set_cons_succ]
                      refine take0 (v := ?v64) (oi := ?o64) 9 ?hi64 (by kernel_rfl) (by kernel_rfl) (by kernel_rfl) ?hq64 ?hy64 ?_
                      case hi64 => (simp only [List.getElem?_toArray, List.getElem?_cons_zero, List.getElem?_cons_succ]; rfl)
                      case hq64 => exact fun _ _ _ h => h
                      case hy64 => first | (refine ry_not ?_; rfl) | (refine ry_run (by rfl) (fun w' hw' => ?_); go_simp; try rfl)
                      simp only [Act.put, List.setIfInBounds_toArray, List.set_cons_zero, List.set_cons_succ]
                      refine take0 (v := ?v65) (oi := ?o65) 10 ?hi65 (by kernel_rfl) (by kernel_rfl) (by kernel_rfl) ?hq65 ?hy65 ?_
                      case hi65 => (simp only [List.getElem?_toArray, List.getElem?_cons_zero, List.getElem?_cons_succ]; rfl)
                      case hq65 => exact fun _ _ _ h => h
                      case hy65 => first | (refine ry_not ?_; rfl) | (refine ry_run (by rfl) (fun w' hw' => ?_); go_simp; try rfl)
                      simp only [Act.put, List.setIfInBounds_toArray, List.set_cons_zero, List.set_cons_succ]
                      refine take0 (v := ?v66) (oi := ?o66) 11 ?hi66 (by kernel_rfl) (by kernel_rfl) (by kernel_rfl) ?hq66 ?hy66 ?_
                      case hi66 => (simp only [List.getElem?_toArray, List.getElem?_cons_zero, List.getElem?_cons_succ]; rfl)
                      case hq66 => exact fun _ _ _ h => h
                      case hy66 => first | (refine ry_not ?_; rfl) | (refine ry_run (by rfl) (fun w' hw' => ?_); go_simp; try rfl)
                      simp only [Act.put, List.setIfInBounds_toArray, List.set_cons_zero, List.set_cons_succ]
                      refine take0 (v := ?v67) (oi := ?o67) 12 ?hi67 (by kernel_rfl) (by kernel_rfl) (by kernel_rfl) ?hq67 ?hy67 ?_
                      case hi67 => (simp only [List.getElem?_toArray, List.getElem?_cons_zero, List.getElem?_cons_succ]; rfl)
                      case hq67 => exact fun _ _ _ h => h
                      case hy67 => first | (refine ry_not ?_; rfl) | (refine ry_run (by rfl) (fun w' hw' => ?_); go_simp; try rfl)
                      simp only [Act.put, List.setIfInBounds_toArray, List.set_cons_zero, List.set_cons_succ]
                      refine take0 (v := ?v68) (oi := ?o68) 13 ?hi68 (by kernel_rfl) (by kernel_rfl) (by kernel_rfl) ?hq68 ?hy68 ?_
                      case hi68 => (simp only [List.getElem?_toArray, List.getElem?_cons_zero, List.getElem?_cons_succ]; rfl)
                      case hq68 => exact fun _ _ _ h => h
                      case hy68 => first | (refine ry_not ?_; rfl) | (refine ry_run (by rfl) (fun w' hw' => ?_); go_simp; try rfl)
                      simp only [Act.put, List.setIfInBounds_toArray, List.set_cons_zero, List.set_cons_succ]
                      refine take0 (v := ?v69) (oi := ?o69) 14 ?hi69 (by kernel_rfl) (by kernel_rfl) (by kernel_rfl) ?hq69 ?hy69 ?_
                      case hi69 => (simp only [List.getElem?_toArray, List.getElem?_cons_zero, List.getElem?_cons_succ]; rfl)
                      case hq69 => exact fun _ _ _ h => h
                      case hy69 => first | (refine ry_not ?_; rfl) | (refine ry_run (by rfl) (fun w' hw' => ?_); go_simp; try rfl)
                      simp only [Act.put, List.setIfInBounds_toArray, List.set_cons_zero, List.set_cons_succ]
                      refine take0 (v := ?v70) (oi := ?o70) 15 ?hi70 (by kernel_rfl) (by kernel_rfl) (by kernel_rfl) ?hq70 ?hy70 ?_
                      case hi70 => (simp only [List.getElem?_toArray, List.getElem?_cons_zero, List.getElem?_cons_succ]; rfl)
                      case hq70 => exact fun _ _ _ h => h
                      case hy70 => first | (refine ry_not ?_; rfl) | (refine ry_run (by rfl) (fun w' hw' => ?_); go_simp; try rfl)
                      simp only [Act.put, List.setIfInBounds_toArray, List.set_cons_zero, List.set_cons_succ]
                      refine take0 (v := ?v71) (oi := ?o71) 16 ?hi71 (by kernel_rfl) (by kernel_rfl) (by kernel_rfl) ?hq71 ?hy71 ?_
                      case hi71 => (simp only [List.getElem?_toArray, List.getElem?_cons_zero, List.getElem?_cons_succ]; rfl)
                      case hq71 => exact fun _ _ _ h => h
                      case hy71 => first | (refine ry_not ?_; rfl) | (refine ry_run (by rfl) (fun w' hw' => ?_); go_simp; try rfl)
                      simp only [Act.put, List.setIfInBounds_toArray, List.set_cons_zero, List.set_cons_succ]
                      refine step0 (o := ?o72) 17 (by kernel_rfl) ?hi72 ?hw72 ?_
                      case hi72 => (simp only [List.getElem?_toArray, List.getElem?_cons_zero, List.getElem?_cons_succ]; rfl)
                      case hw72 => rfl
                      refine upd_step (.tmp 121) (.tmp 135) (.tmp 137) 41 rfl 3 3 (int_keyed Try.underlying3) Try.underlying41 (plainElem Try.prog 3) bk GB.length D rfl HD.out (by unfold maxLen; omega) (.int .i64 (ka * 256 + kb)) (.int .i64 ((c : Int) + 1)) (.int .i64 (ka * 256 + kb)) rfl rfl (keyOf_int_mk Try.underlying3 (wf_key (by omega))) (.lit (.int .i64 ((c : Int) + 1))) [] (plainElem_int Try.underlying3 (WalkArith.wf_i64 (by omega))) ?_
                      intro w8 hown8 hgrow8
                      refine ⟨.inr (by kernel_rfl), ?_⟩
                      simp only [Act.put, List.setIfInBounds_toArray, List.set_cons_zero, List.set_cons_succ]
                      refine wpAnyM_done (by kernel_rfl) ?_
                      clear x0 lk i0 i1
                      have hm8 : Mod (fun k => k = bk) wr w8 := Mod.grown ((Mod.refl (fun k => k = bk) wr).drew) hgrow8 (fun k hk _ => by injection hk with hk; exact hk.symm)
                      have hO8 := HO4.out.upd hm8 ⟨_, by rw [List.length_append]; exact hown8, HP.out⟩
                      have hF8 : Frames w8 (some ⟨gf, og, none⟩) cg OUT := HFR4.out.keep hm8 (fun a ha e => by
                        obtain ⟨cur, fr, hh⟩ := HFR4.out.row a ha
                        exact HO4.out.back.ne hh e.symm)
                      rw [← HGN.out] at hO8
                      have HO8 := Lib.hid hO8
                      have HF8 := Lib.hid hF8
                      clear hm8 hO8 hF8 hown8 hgrow8
                      go_wp2_with fail
                      go_roundw
                      case rel => exact ⟨j2 + 1, by go_num, by omega, HO8, HF8⟩
                      case measure => simp [intOf]; omega
                    · have ij : ¬ (j2 : Int) < (OUT.length : Int) := by omega
                      have hje : j2 = OUT.length := by omega
                      subst hje
                      have HEND := HO4
                      rw [List.take_length] at HEND
                      clear HO4 HFR4
                      have hw15 : IntKind.i64.wrap ((k2 : Int) + 1) = (k2 : Int) + 1 := by rw [IntKind.wrap_i64]; omega
                      go_wp2_with fail
                      go_roundw
                      case rel => exact ⟨k2 + 1, by go_num, by go_num, by omega, Lib.hid ⟨_, _, _, _, _, _, _, HEND.out, hl60⟩⟩
                      case measure => simp [intOf]; omega
              · have i1 : ¬ (k2 : Int) < ((N % 50 : Nat) : Int) := by omega
                obtain ⟨lz, wt, wb, st, got, pz, Fz, hON, hln⟩ := HR2.out
                have hLF := left_calls wr hON.both.net
                rw [hON.bn] at hLF
                have HLF := Lib.hid hLF
                have HON := Lib.hid hON
                clear hLF hON
                go_wp2_with fail
                refine HLF.out.mono ?_
                rintro e w' ⟨rfl, hw⟩
                have hw := hw.symm
                subst hw
                by_cases hl0 : 0 < lz.length
                · have i2 : (0 : Int) < (lz.length : Int) := by omega
                  as_aux_lemma =>
                    have hk60 : k2 < 60 := by
                      first | omega | (obtain ⟨lz, wt, wb, st, got, pz, Fz, hON, hln⟩ := HR2.out; omega)
                    clear i1
                    try clear i2
                    have hq0 : (k2 : Int).tdiv 256 = 0 := by rw [Int.tdiv_eq_ediv_of_nonneg (by omega)]; omega
                    have hq1 : IntKind.u8.wrap (k2 : Int) = (k2 : Int) := by simp [IntKind.wrap, IntKind.bits, IntKind.signed]; omega
                    have hcv := cv_two 0 (UInt8.ofNat k2) wr
                    rw [ofNat_toNat k2 (by omega), show (((0 : UInt8).toNat : Nat) : Int) = 0 from rfl] at hcv
                    change _ = Result.ok (Value.string (kB k2)) _ at hcv
                    obtain ⟨ly, wty, wby, sty, goty, py, Fy, hOY, hly⟩ := HR2.out
                    have hA := (hOY.keep ((Mod.refl (fun _ => False) wr).alloc (.cells #[.int .u8 0, .int .u8 (k2 : Int)] 5))).ask (by omega) (kB k2) (by rw [kB_key k2 (by omega)]; exact fun h => by have := ksN_mem h; omega) rfl
                    rw [kB_key k2 (by omega), ← ksN_succ] at hA
                    have HA := Lib.hid hA
                    have HLY := Lib.hid hly
                    clear hA hOY hly HR2
                    try clear HON
                    go_wp2_with fail
                    refine HA.out.mono ?_
                    rintro e w5 ⟨Ag, cg, OUT, l3, wt3, wb3, st3, p3, F3, rfl, hfr, htw, hol, hO3, hl3, -⟩
                    have HFR := Lib.hid hfr
                    have HTW := Lib.hid htw
                    have HO3 := Lib.hid hO3
                    have hl60 : l3.length + (k2 + 1) ≤ 60 := by have := HLY.out; omega
                    clear hfr htw hO3 hl3 hcv HA HLY
                    go_wp2_with fail
                    go_loopw [18] (fun j wr => ∃ j2 : Nat, j = .int .i64 j2 ∧ j2 ≤ OUT.length ∧ Hid (OnAt bn bm bq bk L0 (ksN (k2 + 1)) (k2 + 1) l3 wt3 wb3 st3 (goty ++ OUT) (goty ++ OUT.take j2) p3 F3 w wr) ∧ Hid (Frames wr Ag cg OUT)) (fun j _ => OUT.length - (intOf j).toNat)
                    case atStart => exact ⟨0, by go_num, by omega, by rw [List.take_zero, List.append_nil]; exact HO3, HFR⟩
                    case round =>
                      obtain ⟨j2, rfl, hj2, HO4, HFR4⟩ := hrel
                      by_cases hjl : j2 < OUT.length
                      · have ij : (j2 : Int) < (OUT.length : Int) := by omega
                        have hcs := HFR4.out.cells
                        rcases hcs with hcl | ⟨gf, og, rfl, hcell⟩
                        · have hz0 := sv_len OUT; rw [hcl] at hz0; simp at hz0; omega
                        have ck := hcell j2 _ (sv_get OUT j2 hjl)
                        have hgf : gf < wr.heap.size := World.block_lt_of_cell? wr _ ck
                        have hs := HTW.out OUT[j2] (List.getElem_mem hjl)
                        have htk : OUT.take (j2 + 1) = OUT.take j2 ++ [OUT[j2]] := List.take_succ_eq_append_getElem hjl
                        obtain ⟨s, hse⟩ : ∃ s, OUT[j2] = s := ⟨_, rfl⟩
                        rw [hse] at ck hs htk
                        have x0 := fun (w' : World) (m : Mod0 wr.drew w') => ((Mod.of_drew_l m).cell (p := ⟨gf, og + j2, none⟩) hgf (fun h => h)).trans ck
                        have lk := fun (w' : World) (m : Mod0 wr.drew w') => (HO4.out.back.keep (Mod.of_drew_l m) (fun h => h)).look (keyF s) (by have := key_le s; omega)
                        have i0 : ∀ w' : World, (Instr.index 9 (.string s) (.int .i64 0)).run Try.prog w' = _ := fun w' => idx_at s 0 (by omega) w'
                        have i1 : ∀ w' : World, (Instr.index 9 (.string s) (.int .i64 1)).run Try.prog w' = _ := fun w' => idx_at s 1 (by omega) w'
                        have hkle := key_le s
                        have hlg : (goty ++ OUT.take j2).length ≤ 100000 := by
                          have h1 := HO4.out.fit.lb
                          have h2 := HO4.out.fit.lt
                          simp only [List.length_append, List.length_take] at h1 ⊢
                          omega
                        obtain ⟨GB, hGB⟩ : ∃ GB, goty ++ OUT.take j2 = GB := ⟨_, rfl⟩
                        have hgn : goty ++ OUT.take (j2 + 1) = GB ++ [s] := by rw [htk, ← List.append_assoc, hGB]
                        rw [hGB] at HO4 hlg
                        simp only [hGB] at lk
                        have hcl := cnt_le GB (keyF s)
                        obtain ⟨ka, hka⟩ : ∃ ka : Int, ((s.data.toList.getD 0 0).toNat : Int) = ka := ⟨_, rfl⟩
                        obtain ⟨kb, hkb⟩ : ∃ kb : Int, ((s.data.toList.getD 1 0).toNat : Int) = kb := ⟨_, rfl⟩
                        have hk : keyF s = ka * 256 + kb := by unfold keyF; rw [hka, hkb]
                        have hab : 0 ≤ ka ∧ ka ≤ 255 ∧ 0 ≤ kb ∧ kb ≤ 255 := by
                          have h1 := (s.data.toList.getD 0 0).toNat_lt
                          have h2 := (s.data.toList.getD 1 0).toNat_lt
                          omega
                        rw [hka] at i0
                        rw [hkb] at i1
                        have hput := fun D (hD : Counts D GB) => hD.put s
                        obtain ⟨c, hc'⟩ : ∃ c : Nat, cnt GB (keyF s) = c := ⟨_, rfl⟩
                        simp only [hc'] at lk hcl hput
                        rw [hk] at lk hkle
                        simp only [hk] at hput
                        have hw1 : IntKind.i64.wrap ka = ka := by rw [IntKind.wrap_i64]; omega
                        have hw2 : IntKind.i64.wrap kb = kb := by rw [IntKind.wrap_i64]; omega
                        have hw3 : IntKind.i64.wrap (ka * 256) = ka * 256 := by rw [IntKind.wrap_i64]; omega
                        have hw4 : IntKind.i64.wrap (ka * 256 + kb) = ka * 256 + kb := by rw [IntKind.wrap_i64]; omega
                        have hw5 : IntKind.i64.wrap ((c : Int) + 1) = (c : Int) + 1 := by rw [IntKind.wrap_i64]; omega
                        have hw6 : IntKind.i64.wrap ((j2 : Int) + 1) = (j2 : Int) + 1 := by rw [IntKind.wrap_i64]; omega
                        obtain ⟨D, hD1, hD2⟩ := HO4.out.back
                        have HD := Lib.hid (ownsMap_keep hD1 ((Mod.refl (fun _ => False) wr).drew) (fun h => h))
                        have HP := Lib.hid (hput D hD2)
                        have HGN := Lib.hid hgn
                        have ij0 : (0 : Int) ≤ (j2 : Int) := by omega
                        clear hka hkb hk hc' hput hD1 hD2 hcell htk hse hGB hgn ck
                        go_wp2_with fail
                        refine region_m (by kernel_rfl) ?_
                        simp only [List.length_cons, List.length_nil, List.replicate]
                        refine take0 (v := ?v73) (oi := ?o73) 0 ?hi73 (by kernel_rfl) (by kernel_rfl) (by kernel_rfl) ?hq73 ?hy73 ?_
                        case hi73 => (simp only [List.getElem?_toArray, List.getElem?_cons_zero, List.getElem?_cons_succ]; rfl)
                        case hq73 => exact fun _ _ _ h => h
                        case hy73 => first | (refine ry_not ?_; rfl) | (refine ry_run (by rfl) (fun w' hw' => ?_); go_simp; try rfl)
                        simp only [Act.put, List.setIfInBounds_toArray, List.set_cons_zero, List.set_cons_succ]
                        refine take0 (v := ?v74) (oi := ?o74) 1 ?hi74 (by kernel_rfl) (by kernel_rfl) (by kernel_rfl) ?hq74 ?hy74 ?_
                        case hi74 => (simp only [List.getElem?_toArray, List.getElem?_cons_zero, List.getElem?_cons_succ]; rfl)
                        case hq74 => exact fun _ _ _ h => h
                        case hy74 => first | (refine ry_not ?_; rfl) | (refine ry_run (by rfl) (fun w' hw' => ?_); go_simp; try rfl)
                        simp only [Act.put, List.setIfInBounds_toArray, List.set_cons_zero, List.set_cons_succ]
                        refine take0 (v := ?v75) (oi := ?o75) 2 ?hi75 (by kernel_rfl) (by kernel_rfl) (by kernel_rfl) ?hq75 ?hy75 ?_
                        case hi75 => (simp only [List.getElem?_toArray, List.getElem?_cons_zero, List.getElem?_cons_succ]; rfl)
                        case hq75 => exact fun _ _ _ h => h
                        case hy75 => first | (refine ry_not ?_; rfl) | (refine ry_run (by rfl) (fun w' hw' => ?_); go_simp; try rfl)
                        simp only [Act.put, List.setIfInBounds_toArray, List.set_cons_zero, List.set_cons_succ]
                        refine take0 (v := ?v76) (oi := ?o76) 3 ?hi76 (by kernel_rfl) (by kernel_rfl) (by kernel_rfl) ?hq76 ?hy76 ?_
                        case hi76 => (simp only [List.getElem?_toArray, List.getElem?_cons_zero, List.getElem?_cons_succ]; rfl)
                        case hq76 => exact fun _ _ _ h => h
                        case hy76 => first | (refine ry_not ?_; rfl) | (refine ry_run (by rfl) (fun w' hw' => ?_); go_simp; try rfl)
                        simp only [Act.put, List.setIfInBounds_toArray, List.set_cons_zero, List.set_cons_succ]
                        refine take0 (v := ?v77) (oi := ?o77) 4 ?hi77 (by kernel_rfl) (by kernel_rfl) (by kernel_rfl) ?hq77 ?hy77 ?_
                        case hi77 => (simp only [List.getElem?_toArray, List.getElem?_cons_zero, List.getElem?_cons_succ]; rfl)
                        case hq77 => exact fun _ _ _ h => h
                        case hy77 => first | (refine ry_not ?_; rfl) | (refine ry_run (by rfl) (fun w' hw' => ?_); go_simp; try rfl)
                        simp only [Act.put, List.setIfInBounds_toArray, List.set_cons_zero, List.set_cons_succ]
                        refine take0 (v := ?v78) (oi := ?o78) 5 ?hi78 (by kernel_rfl) (by kernel_rfl) (by kernel_rfl) ?hq78 ?hy78 ?_
                        case hi78 => (simp only [List.getElem?_toArray, List.getElem?_cons_zero, List.getElem?_cons_succ]; rfl)
                        case hq78 => exact fun _ _ _ h => h
                        case hy78 => first | (refine ry_not ?_; rfl) | (refine ry_run (by rfl) (fun w' hw' => ?_); go_simp; try rfl)
                        simp only [Act.put, List.setIfInBounds_toArray, List.set_cons_zero, List.set_cons_succ]
                        refine take0 (v := ?v79) (oi := ?o79) 6 ?hi79 (by kernel_rfl) (by kernel_rfl) (by kernel_rfl) ?hq79 ?hy79 ?_
                        case hi79 => (simp only [List.getElem?_toArray, List.getElem?_cons_zero, List.getElem?_cons_succ]; rfl)
                        case hq79 => exact fun _ _ _ h => h
                        case hy79 => first | (refine ry_not ?_; rfl) | (refine ry_run (by rfl) (fun w' hw' => ?_); go_simp; try rfl)
                        simp only [Act.put, List.setIfInBounds_toArray, List.set_cons_zero, List.set_cons_succ]
                        refine take0 (v := ?v80) (oi := ?o80) 7 ?hi80 (by kernel_rfl) (by kernel_rfl) (by kernel_rfl) ?hq80 ?hy80 ?_
                        case hi80 => (simp only [List.getElem?_toArray, List.getElem?_cons_zero, List.getElem?_cons_succ]; rfl)
                        case hq80 => exact fun _ _ _ h => h
                        case hy80 => first | (refine ry_not ?_; rfl) | (refine ry_run (by rfl) (fun w' hw' => ?_); go_simp; try rfl)
                        simp only [Act.put, List.setIfInBounds_toArray, List.set_cons_zero, List.set_cons_succ]
                        refine take0 (v := ?v81) (oi := ?o81) 8 ?hi81 (by kernel_rfl) (by kernel_rfl) (by kernel_rfl) ?hq81 ?hy81 ?_
                        case hi81 => (simp only [List.getElem?_toArray, List.getElem?_cons_zero, List.getElem?_cons_succ]; rfl)
                        case hq81 => exact fun _ _ _ h => h
                        case hy81 => first | (refine ry_not ?_; rfl) | (refine ry_run (by rfl) (fun w' hw' => ?_); go_simp; try rfl)
                        simp only [Act.put, List.setIfInBounds_toArray, List.set_cons_zero, List.set_cons_succ]
                        refine take0 (v := ?v82) (oi := ?o82) 9 ?hi82 (by kernel_rfl) (by kernel_rfl) (by kernel_rfl) ?hq82 ?hy82 ?_
                        case hi82 => (simp only [List.getElem?_toArray, List.getElem?_cons_zero, List.getElem?_cons_succ]; rfl)
                        case hq82 => exact fun _ _ _ h => h
                        case hy82 => first | (refine ry_not ?_; rfl) | (refine ry_run (by rfl) (fun w' hw' => ?_); go_simp; try rfl)
                        simp only [Act.put, List.setIfInBounds_toArray, List.set_cons_zero, List.set_cons_succ]
                        refine take0 (v := ?v83) (oi := ?o83) 10 ?hi83 (by kernel_rfl) (by kernel_rfl) (by kernel_rfl) ?hq83 ?hy83 ?_
                        case hi83 => (simp only [List.getElem?_toArray, List.getElem?_cons_zero, List.getElem?_cons_succ]; rfl)
                        case hq83 => exact fun _ _ _ h => h
                        case hy83 => first | (refine ry_not ?_; rfl) | (refine ry_run (by rfl) (fun w' hw' => ?_); go_simp; try rfl)
                        simp only [Act.put, List.setIfInBounds_toArray, List.set_cons_zero, List.set_cons_succ]
                        refine take0 (v := ?v84) (oi := ?o84) 11 ?hi84 (by kernel_rfl) (by kernel_rfl) (by kernel_rfl) ?hq84 ?hy84 ?_
                        case hi84 => (simp only [List.getElem?_toArray, List.getElem?_cons_zero, List.getElem?_cons_succ]; rfl)
                        case hq84 => exact fun _ _ _ h => h
                        case hy84 => first | (refine ry_not ?_; rfl) | (refine ry_run (by rfl) (fun w' hw' => ?_); go_simp; try rfl)
                        simp only [Act.put, List.setIfInBounds_toArray, List.set_cons_zero, List.set_cons_succ]
                        refine take0 (v := ?v85) (oi := ?o85) 12 ?hi85 (by kernel_rfl) (by kernel_rfl) (by kernel_rfl) ?hq85 ?hy85 ?_
                        case hi85 => (simp only [List.getElem?_toArray, List.getElem?_cons_zero, List.getElem?_cons_succ]; rfl)
                        case hq85 => exact fun _ _ _ h => h
                        case hy85 => first | (refine ry_not ?_; rfl) | (refine ry_run (by rfl) (fun w' hw' => ?_); go_simp; try rfl)
                        simp only [Act.put, List.setIfInBounds_toArray, List.set_cons_zero, List.set_cons_succ]
                        refine take0 (v := ?v86) (oi := ?o86) 13 ?hi86 (by kernel_rfl) (by kernel_rfl) (by kernel_rfl) ?hq86 ?hy86 ?_
                        case hi86 => (simp only [List.getElem?_toArray, List.getElem?_cons_zero, List.getElem?_cons_succ]; rfl)
                        case hq86 => exact fun _ _ _ h => h
                        case hy86 => first | (refine ry_not ?_; rfl) | (refine ry_run (by rfl) (fun w' hw' => ?_); go_simp; try rfl)
                        simp only [Act.put, List.setIfInBounds_toArray, List.set_cons_zero, List.set_cons_succ]
                        refine take0 (v := ?v87) (oi := ?o87) 14 ?hi87 (by kernel_rfl) (by kernel_rfl) (by kernel_rfl) ?hq87 ?hy87 ?_
                        case hi87 => (simp only [List.getElem?_toArray, List.getElem?_cons_zero, List.getElem?_cons_succ]; rfl)
                        case hq87 => exact fun _ _ _ h => h
                        case hy87 => first | (refine ry_not ?_; rfl) | (refine ry_run (by rfl) (fun w' hw' => ?_); go_simp; try rfl)
                        simp only [Act.put, List.setIfInBounds_toArray, List.set_cons_zero, List.set_cons_succ]
                        refine take0 (v := ?v88) (oi := ?o88) 15 ?hi88 (by kernel_rfl) (by kernel_rfl) (by kernel_rfl) ?hq88 ?hy88 ?_
                        case hi88 => (simp only [List.getElem?_toArray, List.getElem?_cons_zero, List.getElem?_cons_succ]; rfl)
                        case hq88 => exact fun _ _ _ h => h
                        case hy88 => first | (refine ry_not ?_; rfl) | (refine ry_run (by rfl) (fun w' hw' => ?_); go_simp; try rfl)
                        simp only [Act.put, List.setIfInBounds_toArray, List.set_cons_zero, List.set_cons_succ]
                        refine take0 (v := ?v89) (oi := ?o89) 16 ?hi89 (by kernel_rfl) (by kernel_rfl) (by kernel_rfl) ?hq89 ?hy89 ?_
                        case hi89 => (simp only [List.getElem?_toArray, List.getElem?_cons_zero, List.getElem?_cons_succ]; rfl)
                        case hq89 => exact fun _ _ _ h => h
                        case hy89 => first | (refine ry_not ?_; rfl) | (refine ry_run (by rfl) (fun w' hw' => ?_); go_simp; try rfl)
                        simp only [Act.put, List.setIfInBounds_toArray, List.set_cons_zero, List.set_cons_succ]
                        refine step0 (o := ?o90) 17 (by kernel_rfl) ?hi90 ?hw90 ?_
                        case hi90 => (simp only [List.getElem?_toArray, List.getElem?_cons_zero, List.getElem?_cons_succ]; rfl)
                        case hw90 => rfl
                        refine upd_step (.tmp 121) (.tmp 135) (.tmp 137) 41 rfl 3 3 (int_keyed Try.underlying3) Try.underlying41 (plainElem Try.prog 3) bk GB.length D rfl HD.out (by unfold maxLen; omega) (.int .i64 (ka * 256 + kb)) (.int .i64 ((c : Int) + 1)) (.int .i64 (ka * 256 + kb)) rfl rfl (keyOf_int_mk Try.underlying3 (wf_key (by omega))) (.lit (.int .i64 ((c : Int) + 1))) [] (plainElem_int Try.underlying3 (WalkArith.wf_i64 (by omega))) ?_
                        intro w8 hown8 hgrow8
                        refine ⟨.inr (by kernel_rfl), ?_⟩
                        simp only [Act.put, List.setIfInBounds_toArray, List.set_cons_zero, List.set_cons_succ]
                        refine wpAnyM_done (by kernel_rfl) ?_
                        clear x0 lk i0 i1
                        have hm8 : Mod (fun k => k = bk) wr w8 := Mod.grown ((Mod.refl (fun k => k = bk) wr).drew) hgrow8 (fun k hk _ => by injection hk with hk; exact hk.symm)
                        have hO8 := HO4.out.upd hm8 ⟨_, by rw [List.length_append]; exact hown8, HP.out⟩
                        have hF8 : Frames w8 (some ⟨gf, og, none⟩) cg OUT := HFR4.out.keep hm8 (fun a ha e => by
                          obtain ⟨cur, fr, hh⟩ := HFR4.out.row a ha
                          exact HO4.out.back.ne hh e.symm)
                        rw [← HGN.out] at hO8
                        have HO8 := Lib.hid hO8
                        have HF8 := Lib.hid hF8
                        clear hm8 hO8 hF8 hown8 hgrow8
                        go_wp2_with fail
                        go_roundw
                        case rel => exact ⟨j2 + 1, by go_num, by omega, HO8, HF8⟩
                        case measure => simp [intOf]; omega
                      · have ij : ¬ (j2 : Int) < (OUT.length : Int) := by omega
                        have hje : j2 = OUT.length := by omega
                        subst hje
                        have HEND := HO4
                        rw [List.take_length] at HEND
                        clear HO4 HFR4
                        have hw15 : IntKind.i64.wrap ((k2 : Int) + 1) = (k2 : Int) + 1 := by rw [IntKind.wrap_i64]; omega
                        go_wp2_with fail
                        go_roundw
                        case rel => exact ⟨k2 + 1, by go_num, by go_num, by omega, Lib.hid ⟨_, _, _, _, _, _, _, HEND.out, hl60⟩⟩
                        case measure => simp [intOf]; omega
                · have i2 : ¬ (0 : Int) < (lz.length : Int) := by omega
                  as_aux_lemma =>
                    obtain rfl : lz = [] := List.eq_nil_of_length_eq_zero (by omega)
                    have HE : Hid (ERel bn bm bq bk L0 k2 0 w wr) := Lib.hid ⟨wt, wb, st, got, pz, Fz, by show OnAt _ _ _ _ _ (ksN k2 ++ []) _ _ _ _ _ _ _ _ _ _ _; rw [List.append_nil]; exact HON.out, fun h => by omega⟩
                    clear HON HR2 hln
                    go_wp2_with fail
                    clear i1 i2
                    go_loopw [19] (fun j wr => ∃ j4 : Nat, j = .int .i64 j4 ∧ j4 ≤ 3 ∧ Hid (ERel bn bm bq bk L0 k2 j4 w wr)) (fun j _ => 3 - (intOf j).toNat)
                    case atStart => exact ⟨0, by go_num, by omega, HE⟩
                    case round =>
                      obtain ⟨j4, rfl, hj4, HE4⟩ := hrel
                      by_cases hj3 : j4 < 3
                      · have i1 : (j4 : Int) < 3 := by omega
                        have hq1 : IntKind.u8.wrap (j4 : Int) = (j4 : Int) := by simp [IntKind.wrap, IntKind.bits, IntKind.signed]; omega
                        have hcv := cv_two 255 (UInt8.ofNat j4) wr
                        rw [ofNat_toNat j4 (by omega), show (((255 : UInt8).toNat : Nat) : Int) = 255 from rfl] at hcv
                        change _ = Result.ok (Value.string (eB j4)) _ at hcv
                        obtain ⟨wty, wby, sty, goty, py, Fy, hOY, hly⟩ := HE4.out
                        have hA := (hOY.keep ((Mod.refl (fun _ => False) wr).alloc (.cells #[.int .u8 255, .int .u8 (j4 : Int)] 5))).ask (by omega) (eB j4) (by
                          rw [eB_key j4 (by omega)]
                          intro h
                          rcases List.mem_append.1 h with h | h
                          · have := ksN_mem h; omega
                          · have := eK_mem h; omega) rfl
                        rw [eB_key j4 (by omega), List.append_assoc, ← eK_succ] at hA
                        have HA := Lib.hid hA
                        clear hA hOY hly HE4 HE
                        go_wp2_with fail
                        refine HA.out.mono ?_
                        rintro e w5 ⟨Ag, cg, OUT, l3, wt3, wb3, st3, p3, F3, rfl, hfr, htw, hol, hO3, hl3, hnil⟩
                        obtain ⟨rfl, rfl, rfl⟩ := hnil (by simp)
                        have HFR := Lib.hid hfr
                        have HTW := Lib.hid htw
                        have HO3 := Lib.hid hO3
                        clear hfr htw hO3 hl3 hcv HA hnil
                        go_wp2_with fail
                        go_loopw [21] (fun j wr => ∃ j2 : Nat, j = .int .i64 j2 ∧ j2 ≤ OUT.length ∧ Hid (OnAt bn bm bq bk L0 (ksN k2 ++ eK (j4 + 1)) (k2 + j4 + 1) [] [] [] st3 (goty ++ OUT) (goty ++ OUT.take j2) p3 F3 w wr) ∧ Hid (Frames wr Ag cg OUT)) (fun j _ => OUT.length - (intOf j).toNat)
                        case atStart => exact ⟨0, by go_num, by omega, by rw [List.take_zero, List.append_nil]; exact HO3, HFR⟩
                        case round =>
                          obtain ⟨j2, rfl, hj2, HO4, HFR4⟩ := hrel
                          by_cases hjl : j2 < OUT.length
                          · have ij : (j2 : Int) < (OUT.length : Int) := by omega
                            have hcs := HFR4.out.cells
                            rcases hcs with hcl | ⟨gf, og, rfl, hcell⟩
                            · have hz0 := sv_len OUT; rw [hcl] at hz0; simp at hz0; omega
                            have ck := hcell j2 _ (sv_get OUT j2 hjl)
                            have hgf : gf < wr.heap.size := World.block_lt_of_cell? wr _ ck
                            have hs := HTW.out OUT[j2] (List.getElem_mem hjl)
                            have htk : OUT.take (j2 + 1) = OUT.take j2 ++ [OUT[j2]] := List.take_succ_eq_append_getElem hjl
                            obtain ⟨s, hse⟩ : ∃ s, OUT[j2] = s := ⟨_, rfl⟩
                            rw [hse] at ck hs htk
                            have x0 := fun (w' : World) (m : Mod0 wr.drew w') => ((Mod.of_drew_l m).cell (p := ⟨gf, og + j2, none⟩) hgf (fun h => h)).trans ck
                            have lk := fun (w' : World) (m : Mod0 wr.drew w') => (HO4.out.back.keep (Mod.of_drew_l m) (fun h => h)).look (keyF s) (by have := key_le s; omega)
                            have i0 : ∀ w' : World, (Instr.index 9 (.string s) (.int .i64 0)).run Try.prog w' = _ := fun w' => idx_at s 0 (by omega) w'
                            have i1 : ∀ w' : World, (Instr.index 9 (.string s) (.int .i64 1)).run Try.prog w' = _ := fun w' => idx_at s 1 (by omega) w'
                            have hkle := key_le s
                            have hlg : (goty ++ OUT.take j2).length ≤ 100000 := by
                              have h1 := HO4.out.fit.lb
                              have h2 := HO4.out.fit.lt
                              simp only [List.length_append, List.length_take] at h1 ⊢
                              omega
                            obtain ⟨GB, hGB⟩ : ∃ GB, goty ++ OUT.take j2 = GB := ⟨_, rfl⟩
                            have hgn : goty ++ OUT.take (j2 + 1) = GB ++ [s] := by rw [htk, ← List.append_assoc, hGB]
                            rw [hGB] at HO4 hlg
                            simp only [hGB] at lk
                            have hcl := cnt_le GB (keyF s)
                            obtain ⟨ka, hka⟩ : ∃ ka : Int, ((s.data.toList.getD 0 0).toNat : Int) = ka := ⟨_, rfl⟩
                            obtain ⟨kb, hkb⟩ : ∃ kb : Int, ((s.data.toList.getD 1 0).toNat : Int) = kb := ⟨_, rfl⟩
                            have hk : keyF s = ka * 256 + kb := by unfold keyF; rw [hka, hkb]
                            have hab : 0 ≤ ka ∧ ka ≤ 255 ∧ 0 ≤ kb ∧ kb ≤ 255 := by
                              have h1 := (s.data.toList.getD 0 0).toNat_lt
                              have h2 := (s.data.toList.getD 1 0).toNat_lt
                              omega
                            rw [hka] at i0
                            rw [hkb] at i1
                            have hput := fun D (hD : Counts D GB) => hD.put s
                            obtain ⟨c, hc'⟩ : ∃ c : Nat, cnt GB (keyF s) = c := ⟨_, rfl⟩
                            simp only [hc'] at lk hcl hput
                            rw [hk] at lk hkle
                            simp only [hk] at hput
                            have hw1 : IntKind.i64.wrap ka = ka := by rw [IntKind.wrap_i64]; omega
                            have hw2 : IntKind.i64.wrap kb = kb := by rw [IntKind.wrap_i64]; omega
                            have hw3 : IntKind.i64.wrap (ka * 256) = ka * 256 := by rw [IntKind.wrap_i64]; omega
                            have hw4 : IntKind.i64.wrap (ka * 256 + kb) = ka * 256 + kb := by rw [IntKind.wrap_i64]; omega
                            have hw5 : IntKind.i64.wrap ((c : Int) + 1) = (c : Int) + 1 := by rw [IntKind.wrap_i64]; omega
                            have hw6 : IntKind.i64.wrap ((j2 : Int) + 1) = (j2 : Int) + 1 := by rw [IntKind.wrap_i64]; omega
                            obtain ⟨D, hD1, hD2⟩ := HO4.out.back
                            have HD := Lib.hid (ownsMap_keep hD1 ((Mod.refl (fun _ => False) wr).drew) (fun h => h))
                            have HP := Lib.hid (hput D hD2)
                            have HGN := Lib.hid hgn
                            have ij0 : (0 : Int) ≤ (j2 : Int) := by omega
                            clear hka hkb hk hc' hput hD1 hD2 hcell htk hse hGB hgn ck
                            go_wp2_with fail
                            refine region_m (by kernel_rfl) ?_
                            simp only [List.length_cons, List.length_nil, List.replicate]
                            refine take0 (v := ?v91) (oi := ?o91) 0 ?hi91 (by kernel_rfl) (by kernel_rfl) (by kernel_rfl) ?hq91 ?hy91 ?_
                            case hi91 => (simp only [List.getElem?_toArray, List.getElem?_cons_zero, List.getElem?_cons_succ]; rfl)
                            case hq91 => exact fun _ _ _ h => h
                            case hy91 => first | (refine ry_not ?_; rfl) | (refine ry_run (by rfl) (fun w' hw' => ?_); go_simp; try rfl)
                            simp only [Act.put, List.setIfInBounds_toArray, List.set_cons_zero, List.set_cons_succ]
                            refine take0 (v := ?v92) (oi := ?o92) 1 ?hi92 (by kernel_rfl) (by kernel_rfl) (by kernel_rfl) ?hq92 ?hy92 ?_
                            case hi92 => (simp only [List.getElem?_toArray, List.getElem?_cons_zero, List.getElem?_cons_succ]; rfl)
                            case hq92 => exact fun _ _ _ h => h
                            case hy92 => first | (refine ry_not ?_; rfl) | (refine ry_run (by rfl) (fun w' hw' => ?_); go_simp; try rfl)
                            simp only [Act.put, List.setIfInBounds_toArray, List.set_cons_zero, List.set_cons_succ]
                            refine take0 (v := ?v93) (oi := ?o93) 2 ?hi93 (by kernel_rfl) (by kernel_rfl) (by kernel_rfl) ?hq93 ?hy93 ?_
                            case hi93 => (simp only [List.getElem?_toArray, List.getElem?_cons_zero, List.getElem?_cons_succ]; rfl)
                            case hq93 => exact fun _ _ _ h => h
                            case hy93 => first | (refine ry_not ?_; rfl) | (refine ry_run (by rfl) (fun w' hw' => ?_); go_simp; try rfl)
                            simp only [Act.put, List.setIfInBounds_toArray, List.set_cons_zero, List.set_cons_succ]
                            refine take0 (v := ?v94) (oi := ?o94) 3 ?hi94 (by kernel_rfl) (by kernel_rfl) (by kernel_rfl) ?hq94 ?hy94 ?_
                            case hi94 => (simp only [List.getElem?_toArray, List.getElem?_cons_zero, List.getElem?_cons_succ]; rfl)
                            case hq94 => exact fun _ _ _ h => h
                            case hy94 => first | (refine ry_not ?_; rfl) | (refine ry_run (by rfl) (fun w' hw' => ?_); go_simp; try rfl)
                            simp only [Act.put, List.setIfInBounds_toArray, List.set_cons_zero, List.set_cons_succ]
                            refine take0 (v := ?v95) (oi := ?o95) 4 ?hi95 (by kernel_rfl) (by kernel_rfl) (by kernel_rfl) ?hq95 ?hy95 ?_
                            case hi95 => (simp only [List.getElem?_toArray, List.getElem?_cons_zero, List.getElem?_cons_succ]; rfl)
                            case hq95 => exact fun _ _ _ h => h
                            case hy95 => first | (refine ry_not ?_; rfl) | (refine ry_run (by rfl) (fun w' hw' => ?_); go_simp; try rfl)
                            simp only [Act.put, List.setIfInBounds_toArray, List.set_cons_zero, List.set_cons_succ]
                            refine take0 (v := ?v96) (oi := ?o96) 5 ?hi96 (by kernel_rfl) (by kernel_rfl) (by kernel_rfl) ?hq96 ?hy96 ?_
                            case hi96 => (simp only [List.getElem?_toArray, List.getElem?_cons_zero, List.getElem?_cons_succ]; rfl)
                            case hq96 => exact fun _ _ _ h => h
                            case hy96 => first | (refine ry_not ?_; rfl) | (refine ry_run (by rfl) (fun w' hw' => ?_); go_simp; try rfl)
                            simp only [Act.put, List.setIfInBounds_toArray, List.set_cons_zero, List.set_cons_succ]
                            refine take0 (v := ?v97) (oi := ?o97) 6 ?hi97 (by kernel_rfl) (by kernel_rfl) (by kernel_rfl) ?hq97 ?hy97 ?_
                            case hi97 => (simp only [List.getElem?_toArray, List.getElem?_cons_zero, List.getElem?_cons_succ]; rfl)
                            case hq97 => exact fun _ _ _ h => h
                            case hy97 => first | (refine ry_not ?_; rfl) | (refine ry_run (by rfl) (fun w' hw' => ?_); go_simp; try rfl)
                            simp only [Act.put, List.setIfInBounds_toArray, List.set_cons_zero, List.set_cons_succ]
                            refine take0 (v := ?v98) (oi := ?o98) 7 ?hi98 (by kernel_rfl) (by kernel_rfl) (by kernel_rfl) ?hq98 ?hy98 ?_
                            case hi98 => (simp only [List.getElem?_toArray, List.getElem?_cons_zero, List.getElem?_cons_succ]; rfl)
                            case hq98 => exact fun _ _ _ h => h
                            case hy98 => first | (refine ry_not ?_; rfl) | (refine ry_run (by rfl) (fun w' hw' => ?_); go_simp; try rfl)
                            simp only [Act.put, List.setIfInBounds_toArray, List.set_cons_zero, List.set_cons_succ]
                            refine take0 (v := ?v99) (oi := ?o99) 8 ?hi99 (by kernel_rfl) (by kernel_rfl) (by kernel_rfl) ?hq99 ?hy99 ?_
                            case hi99 => (simp only [List.getElem?_toArray, List.getElem?_cons_zero, List.getElem?_cons_succ]; rfl)
                            case hq99 => exact fun _ _ _ h => h
                            case hy99 => first | (refine ry_not ?_; rfl) | (refine ry_run (by rfl) (fun w' hw' => ?_); go_simp; try rfl)
                            simp only [Act.put, List.setIfInBounds_toArray, List.set_cons_zero, List.set_cons_succ]
                            refine take0 (v := ?v100) (oi := ?o100) 9 ?hi100 (by kernel_rfl) (by kernel_rfl) (by kernel_rfl) ?hq100 ?hy100 ?_
                            case hi100 => (simp only [List.getElem?_toArray, List.getElem?_cons_zero, List.getElem?_cons_succ]; rfl)
                            case hq100 => exact fun _ _ _ h => h
                            case hy100 => first | (refine ry_not ?_; rfl) | (refine ry_run (by rfl) (fun w' hw' => ?_); go_simp; try rfl)
                            simp only [Act.put, List.setIfInBounds_toArray, List.set_cons_zero, List.set_cons_succ]
                            refine take0 (v := ?v101) (oi := ?o101) 10 ?hi101 (by kernel_rfl) (by kernel_rfl) (by kernel_rfl) ?hq101 ?hy101 ?_
                            case hi101 => (simp only [List.getElem?_toArray, List.getElem?_cons_zero, List.getElem?_cons_succ]; rfl)
                            case hq101 => exact fun _ _ _ h => h
                            case hy101 => first | (refine ry_not ?_; rfl) | (refine ry_run (by rfl) (fun w' hw' => ?_); go_simp; try rfl)
                            simp only [Act.put, List.setIfInBounds_toArray, List.set_cons_zero, List.set_cons_succ]
                            refine take0 (v := ?v102) (oi := ?o102) 11 ?hi102 (by kernel_rfl) (by kernel_rfl) (by kernel_rfl) ?hq102 ?hy102 ?_
                            case hi102 => (simp only [List.getElem?_toArray, List.getElem?_cons_zero, List.getElem?_cons_succ]; rfl)
                            case hq102 => exact fun _ _ _ h => h
                            case hy102 => first | (refine ry_not ?_; rfl) | (refine ry_run (by rfl) (fun w' hw' => ?_); go_simp; try rfl)
                            simp only [Act.put, List.setIfInBounds_toArray, List.set_cons_zero, List.set_cons_succ]
                            refine take0 (v := ?v103) (oi := ?o103) 12 ?hi103 (by kernel_rfl) (by kernel_rfl) (by kernel_rfl) ?hq103 ?hy103 ?_
                            case hi103 => (simp only [List.getElem?_toArray, List.getElem?_cons_zero, List.getElem?_cons_succ]; rfl)
                            case hq103 => exact fun _ _ _ h => h
                            case hy103 => first | (refine ry_not ?_; rfl) | (refine ry_run (by rfl) (fun w' hw' => ?_); go_simp; try rfl)
                            simp only [Act.put, List.setIfInBounds_toArray, List.set_cons_zero, List.set_cons_succ]
                            refine take0 (v := ?v104) (oi := ?o104) 13 ?hi104 (by kernel_rfl) (by kernel_rfl) (by kernel_rfl) ?hq104 ?hy104 ?_
                            case hi104 => (simp only [List.getElem?_toArray, List.getElem?_cons_zero, List.getElem?_cons_succ]; rfl)
                            case hq104 => exact fun _ _ _ h => h
                            case hy104 => first | (refine ry_not ?_; rfl) | (refine ry_run (by rfl) (fun w' hw' => ?_); go_simp; try rfl)
                            simp only [Act.put, List.setIfInBounds_toArray, List.set_cons_zero, List.set_cons_succ]
                            refine take0 (v := ?v105) (oi := ?o105) 14 ?hi105 (by kernel_rfl) (by kernel_rfl) (by kernel_rfl) ?hq105 ?hy105 ?_
                            case hi105 => (simp only [List.getElem?_toArray, List.getElem?_cons_zero, List.getElem?_cons_succ]; rfl)
                            case hq105 => exact fun _ _ _ h => h
                            case hy105 => first | (refine ry_not ?_; rfl) | (refine ry_run (by rfl) (fun w' hw' => ?_); go_simp; try rfl)
                            simp only [Act.put, List.setIfInBounds_toArray, List.set_cons_zero, List.set_cons_succ]
                            refine take0 (v := ?v106) (oi := ?o106) 15 ?hi106 (by kernel_rfl) (by kernel_rfl) (by kernel_rfl) ?hq106 ?hy106 ?_
                            case hi106 => (simp only [List.getElem?_toArray, List.getElem?_cons_zero, List.getElem?_cons_succ]; rfl)
                            case hq106 => exact fun _ _ _ h => h
                            case hy106 => first | (refine ry_not ?_; rfl) | (refine ry_run (by rfl) (fun w' hw' => ?_); go_simp; try rfl)
                            simp only [Act.put, List.setIfInBounds_toArray, List.set_cons_zero, List.set_cons_succ]
                            refine take0 (v := ?v107) (oi := ?o107) 16 ?hi107 (by kernel_rfl) (by kernel_rfl) (by kernel_rfl) ?hq107 ?hy107 ?_
                            case hi107 => (simp only [List.getElem?_toArray, List.getElem?_cons_zero, List.getElem?_cons_succ]; rfl)
                            case hq107 => exact fun _ _ _ h => h
                            case hy107 => first | (refine ry_not ?_; rfl) | (refine ry_run (by rfl) (fun w' hw' => ?_); go_simp; try rfl)
                            simp only [Act.put, List.setIfInBounds_toArray, List.set_cons_zero, List.set_cons_succ]
                            refine step0 (o := ?o108) 17 (by kernel_rfl) ?hi108 ?hw108 ?_
                            case hi108 => (simp only [List.getElem?_toArray, List.getElem?_cons_zero, List.getElem?_cons_succ]; rfl)
                            case hw108 => rfl
                            refine upd_step (.tmp 156) (.tmp 170) (.tmp 172) 41 rfl 3 3 (int_keyed Try.underlying3) Try.underlying41 (plainElem Try.prog 3) bk GB.length D rfl HD.out (by unfold maxLen; omega) (.int .i64 (ka * 256 + kb)) (.int .i64 ((c : Int) + 1)) (.int .i64 (ka * 256 + kb)) rfl rfl (keyOf_int_mk Try.underlying3 (wf_key (by omega))) (.lit (.int .i64 ((c : Int) + 1))) [] (plainElem_int Try.underlying3 (WalkArith.wf_i64 (by omega))) ?_
                            intro w8 hown8 hgrow8
                            refine ⟨.inr (by kernel_rfl), ?_⟩
                            simp only [Act.put, List.setIfInBounds_toArray, List.set_cons_zero, List.set_cons_succ]
                            refine wpAnyM_done (by kernel_rfl) ?_
                            clear x0 lk i0 i1
                            have hm8 : Mod (fun k => k = bk) wr w8 := Mod.grown ((Mod.refl (fun k => k = bk) wr).drew) hgrow8 (fun k hk _ => by injection hk with hk; exact hk.symm)
                            have hO8 := HO4.out.upd hm8 ⟨_, by rw [List.length_append]; exact hown8, HP.out⟩
                            have hF8 : Frames w8 (some ⟨gf, og, none⟩) cg OUT := HFR4.out.keep hm8 (fun a ha e => by
                              obtain ⟨cur, fr, hh⟩ := HFR4.out.row a ha
                              exact HO4.out.back.ne hh e.symm)
                            rw [← HGN.out] at hO8
                            have HO8 := Lib.hid hO8
                            have HF8 := Lib.hid hF8
                            clear hm8 hO8 hF8 hown8 hgrow8
                            go_wp2_with fail
                            go_roundw
                            case rel => exact ⟨j2 + 1, by go_num, by omega, HO8, HF8⟩
                            case measure => simp [intOf]; omega
                          · have ij : ¬ (j2 : Int) < (OUT.length : Int) := by omega
                            have hje : j2 = OUT.length := by omega
                            subst hje
                            have HEND := HO4
                            rw [List.take_length] at HEND
                            clear HO4 HFR4
                            have hw15 : IntKind.i64.wrap ((j4 : Int) + 1) = (j4 : Int) + 1 := by rw [IntKind.wrap_i64]; omega
                            go_wp2_with fail
                            go_roundw
                            case rel => exact ⟨j4 + 1, by go_num, by omega, Lib.hid ⟨_, _, _, _, _, _, HEND.out, fun _ => ⟨rfl, rfl⟩⟩⟩
                            case measure => simp [intOf]; omega
                      · have i1 : ¬ (j4 : Int) < 3 := by omega
                        obtain ⟨wty, wby, sty, goty, py, Fy, hOY, hly⟩ := HE4.out
                        obtain ⟨rfl, rfl⟩ := hly (by omega)
                        obtain ⟨e1, e2, e3⟩ := hOY.fit.ends
                        have HE5 := Lib.hid (And.intro e1 (And.intro e2 e3))
                        have HO5 := Lib.hid hOY
                        clear hOY hly HE4 HE e1 e2 e3
                        go_wp2_with fail
                        clear i1
                        go_loopw [22, 23] (fun gv j wr => ∃ i6 : Nat, gv = .int .i64 (gone goty i6 : Nat) ∧ j = .int .i64 i6 ∧ i6 ≤ k2 ∧ Hid (OnAt bn bm bq bk L0 (ksN k2 ++ eK j4) (k2 + j4) [] [] [] sty goty goty py Fy w wr)) (fun _ j _ => k2 - (intOf j).toNat)
                        case atStart => exact ⟨0, by go_num, by go_num, by omega, HO5⟩
                        case round =>
                          obtain ⟨i6, rfl, rfl, hi6, HO6⟩ := hrel
                          by_cases hik : i6 < k2
                          · have i1 : (i6 : Int) < (k2 : Int) := by omega
                            have g1 := HE5.out.1 (i6 : Int)
                            have g2 := HE5.out.2.1 (i6 : Int)
                            have x0 := HO6.out.both.srv.1.box.cell (o := 0) rfl
                            have lk1 := HO6.out.both.srv.1.map.look (i6 : Int) (by omega)
                            have lk2 := HO6.out.back.look (i6 : Int) (by omega)
                            have j1 : ¬ (2 : Int) < (cnt sty (i6 : Int) : Int) := by omega
                            have j2 : ¬ (4 : Int) < (cnt goty (i6 : Int) : Int) := by omega
                            have hgs := gone_succ goty i6
                            have hgl := gone_le goty i6
                            have hw1 : IntKind.i64.wrap ((i6 : Int) + 1) = (i6 : Int) + 1 := by rw [IntKind.wrap_i64]; omega
                            have hw2 : IntKind.i64.wrap ((gone goty i6 : Int) + 1) = (gone goty i6 : Int) + 1 := by rw [IntKind.wrap_i64]; omega
                            by_cases hz0 : cnt goty (i6 : Int) = 0
                            · have b0 : ((cnt goty (i6 : Int) : Int) == 0) = true := by rw [hz0]; rfl
                              rw [if_pos hz0] at hgs
                              clear g1 g2
                              go_wp2_with fail
                              go_roundw
                              case rel => exact ⟨i6 + 1, by rw [hgs]; go_num, by go_num, by omega, HO6⟩
                              case measure => simp [intOf]; omega
                            · have b0 : ((cnt goty (i6 : Int) : Int) == 0) = false := by simpa using hz0
                              rw [if_neg hz0] at hgs
                              clear g1 g2
                              go_wp2_with fail
                              go_roundw
                              case rel => exact ⟨i6 + 1, by rw [hgs]; go_num, by go_num, by omega, HO6⟩
                              case measure => simp [intOf]; omega
                          · have i1 : ¬ (i6 : Int) < (k2 : Int) := by omega
                            obtain rfl : i6 = k2 := by omega
                            have g3 : (gone goty i6 : Int) ≤ (L0 : Int) := by have h := HE5.out.2.2; unfold gone; omega
                            have HMW := Lib.hid HO6.out.mod
                            clear HO6 HE5 HO5
                            go_wp2_with fail
                            go_ret
                            exact ⟨rfl, HMW.out.below (fun _ _ h => h)⟩
  · obtain ⟨N, rfl⟩ : ∃ N : Nat, many = N := ⟨many.toNat, by omega⟩
    have hw3 : (N : Int).tmod 50 = ((N % 50 : Nat) : Int) := by rw [Int.tmod_eq_emod_of_nonneg (by omega)]; omega
    have hw4 : IntKind.i64.wrap ((N % 50 : Nat) : Int) = ((N % 50 : Nat) : Int) := by rw [IntKind.wrap_i64]; omega
    go_enter Try.func5, Try.ntmps5
    go_wp2_with fail
    refine (shown_calls _).mono ?_
    rintro e w1 ⟨rfl, hm1⟩
    have HM1 := Lib.hid hm1
    clear hm1
    go_wp2_with fail
    as_aux_lemma =>
      go_loopw [6, 7, 8, 9] (fun vl hv lv i wr => ∃ (k : Nat) (fl : List Fate) (hc : Nat), hv = .int .i64 hc ∧ lv = .int .i64 (loses fl : Nat) ∧ i = .int .i64 k ∧ k ≤ l.length ∧ k ≤ 60 ∧ fl.length ≤ k ∧ hc ≤ k ∧ Hid (wr.ownsRow w1.heap.size 35 3 vl fl.length (fcs fl)) ∧ Hid (Kept fl) ∧ Hid (Mod (fun _ => False) w1 wr)) (fun _ _ _ i _ => l.length - (intOf i).toNat)
      case atStart => exact ⟨0, [], 0, by go_num, by go_num, by go_num, by omega, by omega, Nat.le_refl _, Nat.le_refl _, Lib.hid (World.ownsRow_nil _ _ _ _), Lib.hid ⟨(fun _ h => by cases h), (fun _ h => by cases h), rfl⟩, Lib.hid (Mod.refl _ _)⟩
      case round =>
        obtain ⟨k, fl, hc, rfl, rfl, rfl, hk, hk5, hfl, hhc, HO, HG, HM⟩ := hrel
        have hls := loses_le fl
        by_cases hlt : k < l.length
        · have i1 : (k : Int) < (l.length : Int) := by omega
          by_cases hlt5 : k < 60
          · have i2 : (k : Int) < 60 := by omega
            have hm0 := Mod.trans HM1.out HM.out (fun _ _ h => h)
            rcases H0.out.cells.keep hm0 (fun _ _ h => h) with h | ⟨b, o, rfl, hcell⟩
            · have := fcs_len l; rw [h] at this; simp at this; omega
            have g := fcs_get l k hlt
            have x0 := hcell _ _ g.1
            have x1 := hcell _ _ g.2.1
            have x2 := hcell _ _ g.2.2
            rw [← Nat.add_assoc] at x1 x2
            have hbl : b < wr.heap.size := World.block_lt_of_cell? wr _ x0
            have hwf := H0.out.wf l[k] (List.getElem_mem hlt)
            generalize l[k] = f at *
            obtain ⟨fk, fa, fb⟩ := f
            dsimp only at *
            have HWF : Hid (FWf [⟨fk, fa, fb⟩]) := Lib.hid (fun x hx => by obtain rfl := List.mem_singleton.1 hx; exact hwf)
            have hz := HM.out.size
            have hw9 : IntKind.i64.wrap ((k : Int) + 1) = (k : Int) + 1 := by rw [IntKind.wrap_i64]; omega
            have hw8 : IntKind.i64.wrap ((hc : Int) + 1) = (hc : Int) + 1 := by rw [IntKind.wrap_i64]; omega
            have hw7 : IntKind.i64.wrap ((loses fl : Int) + 1) = (loses fl : Int) + 1 := by rw [IntKind.wrap_i64]; omega
            clear hcell g hm0 hwf
            by_cases hg0 : fk = 0
            · subst hg0
              go_wp2_with (first
                | (at_builtin
                   go_must (refine appG (.tmp 64) (.tmp 66) T_fate w1.heap.size _ fl.length (fcs fl) ((HO.out.alloc _).alloc _) _ 1 1 (fc ⟨0, fa, fb⟩) rfl rfl rfl rfl rfl (cells_lit (by simp)) (fc_one _) (by omega) (by unfold maxLen; omega) (by simp; omega) ?_; intro v2 w2 hown2 hm2 hrow2)
                   have hown3 : w2.ownsRow w1.heap.size 35 3 v2 (fl ++ [(⟨0, fa, fb⟩ : Fate)]).length (fcs (fl ++ [(⟨0, fa, fb⟩ : Fate)])) := by
                     rw [List.length_append, fcs_snoc]; exact hown2
                   have HO2 := Lib.hid hown3
                   have HM2 := Lib.hid (Mod.trans ((HM.out.alloc _).alloc _) hm2 (fun i hi h => by have := (HO.out.lt i h).1; omega))
                   have hbf := ((Has.new wr [.int .i64 (0 : Int), .int .i64 fa, .int .u8 (fb.toNat : Int)] 35).alloc (.cells #[.int .i64 (0 : Int), .int .i64 fa, .int .u8 (fb.toNat : Int)] 35)).keep hm2 (fun h => by have := (HO.out.lt _ h).2; omega)
                   have xf0 := hbf.cell (o := 0) rfl
                   clear hown2 hown3 hm2 hrow2 hbf))
              go_roundw
              case rel => exact ⟨k + 1, fl ++ [⟨0, fa, fb⟩], hc + 0, by go_num, by rw [loses_snoc]; go_num, by go_num, by omega, by omega, by simp; omega, by omega, HO2, Lib.hid (HG.out.snoc (f := ⟨0, fa, fb⟩) (by simp) HWF.out), HM2⟩
              case measure => simp [intOf]; omega
            · by_cases hg1 : fk = 1
              · subst hg1
                go_wp2_with (first
                  | (at_builtin
                     go_must (refine appG (.tmp 64) (.tmp 66) T_fate w1.heap.size _ fl.length (fcs fl) ((HO.out.alloc _).alloc _) _ 1 1 (fc ⟨1, fa, fb⟩) rfl rfl rfl rfl rfl (cells_lit (by simp)) (fc_one _) (by omega) (by unfold maxLen; omega) (by simp; omega) ?_; intro v2 w2 hown2 hm2 hrow2)
                     have hown3 : w2.ownsRow w1.heap.size 35 3 v2 (fl ++ [(⟨1, fa, fb⟩ : Fate)]).length (fcs (fl ++ [(⟨1, fa, fb⟩ : Fate)])) := by
                       rw [List.length_append, fcs_snoc]; exact hown2
                     have HO2 := Lib.hid hown3
                     have HM2 := Lib.hid (Mod.trans ((HM.out.alloc _).alloc _) hm2 (fun i hi h => by have := (HO.out.lt i h).1; omega))
                     have hbf := ((Has.new wr [.int .i64 (1 : Int), .int .i64 fa, .int .u8 (fb.toNat : Int)] 35).alloc (.cells #[.int .i64 (1 : Int), .int .i64 fa, .int .u8 (fb.toNat : Int)] 35)).keep hm2 (fun h => by have := (HO.out.lt _ h).2; omega)
                     have xf0 := hbf.cell (o := 0) rfl
                     clear hown2 hown3 hm2 hrow2 hbf))
                go_roundw
                case rel => exact ⟨k + 1, fl ++ [⟨1, fa, fb⟩], hc + 0, by go_num, by rw [loses_snoc]; go_num, by go_num, by omega, by omega, by simp; omega, by omega, HO2, Lib.hid (HG.out.snoc (f := ⟨1, fa, fb⟩) (by simp) HWF.out), HM2⟩
                case measure => simp [intOf]; omega
              · by_cases hg3 : fk = 3
                · subst hg3
                  go_wp2_with (first
                    | (at_builtin
                       go_must (refine appG (.tmp 64) (.tmp 66) T_fate w1.heap.size _ fl.length (fcs fl) ((HO.out.alloc _).alloc _) _ 1 1 (fc ⟨3, fa, fb⟩) rfl rfl rfl rfl rfl (cells_lit (by simp)) (fc_one _) (by omega) (by unfold maxLen; omega) (by simp; omega) ?_; intro v2 w2 hown2 hm2 hrow2)
                       have hown3 : w2.ownsRow w1.heap.size 35 3 v2 (fl ++ [(⟨3, fa, fb⟩ : Fate)]).length (fcs (fl ++ [(⟨3, fa, fb⟩ : Fate)])) := by
                         rw [List.length_append, fcs_snoc]; exact hown2
                       have HO2 := Lib.hid hown3
                       have HM2 := Lib.hid (Mod.trans ((HM.out.alloc _).alloc _) hm2 (fun i hi h => by have := (HO.out.lt i h).1; omega))
                       have hbf := ((Has.new wr [.int .i64 (3 : Int), .int .i64 fa, .int .u8 (fb.toNat : Int)] 35).alloc (.cells #[.int .i64 (3 : Int), .int .i64 fa, .int .u8 (fb.toNat : Int)] 35)).keep hm2 (fun h => by have := (HO.out.lt _ h).2; omega)
                       have xf0 := hbf.cell (o := 0) rfl
                       clear hown2 hown3 hm2 hrow2 hbf))
                  go_roundw
                  case rel => exact ⟨k + 1, fl ++ [⟨3, fa, fb⟩], hc + 1, by go_num, by rw [loses_snoc]; go_num, by go_num, by omega, by omega, by simp; omega, by omega, HO2, Lib.hid (HG.out.snoc (f := ⟨3, fa, fb⟩) (by simp) HWF.out), HM2⟩
                  case measure => simp [intOf]; omega
                · by_cases hg4 : fk = 4
                  · subst hg4
                    go_wp2_with (first
                      | (at_builtin
                         go_must (refine appG (.tmp 64) (.tmp 66) T_fate w1.heap.size _ fl.length (fcs fl) ((HO.out.alloc _).alloc _) _ 1 1 (fc ⟨4, fa, fb⟩) rfl rfl rfl rfl rfl (cells_lit (by simp)) (fc_one _) (by omega) (by unfold maxLen; omega) (by simp; omega) ?_; intro v2 w2 hown2 hm2 hrow2)
                         have hown3 : w2.ownsRow w1.heap.size 35 3 v2 (fl ++ [(⟨4, fa, fb⟩ : Fate)]).length (fcs (fl ++ [(⟨4, fa, fb⟩ : Fate)])) := by
                           rw [List.length_append, fcs_snoc]; exact hown2
                         have HO2 := Lib.hid hown3
                         have HM2 := Lib.hid (Mod.trans ((HM.out.alloc _).alloc _) hm2 (fun i hi h => by have := (HO.out.lt i h).1; omega))
                         have hbf := ((Has.new wr [.int .i64 (4 : Int), .int .i64 fa, .int .u8 (fb.toNat : Int)] 35).alloc (.cells #[.int .i64 (4 : Int), .int .i64 fa, .int .u8 (fb.toNat : Int)] 35)).keep hm2 (fun h => by have := (HO.out.lt _ h).2; omega)
                         have xf0 := hbf.cell (o := 0) rfl
                         clear hown2 hown3 hm2 hrow2 hbf))
                    go_roundw
                    case rel => exact ⟨k + 1, fl ++ [⟨4, fa, fb⟩], hc + 0, by go_num, by rw [loses_snoc]; go_num, by go_num, by omega, by omega, by simp; omega, by omega, HO2, Lib.hid (HG.out.snoc (f := ⟨4, fa, fb⟩) (by simp) HWF.out), HM2⟩
                    case measure => simp [intOf]; omega
                  · have q0 : (fk == 0) = false := by simpa using hg0
                    have q1 : (fk == 1) = false := by simpa using hg1
                    have q3 : (fk == 3) = false := by simpa using hg3
                    have q4 : (fk == 4) = false := by simpa using hg4
                    go_wp2_with fail
                    go_roundw
                    case rel => exact ⟨k + 1, fl, hc, by go_num, by go_num, by go_num, by omega, by omega, by omega, by omega, Lib.hid (HO.out.alloc _), HG, Lib.hid (Mod.alloc HM.out _)⟩
                    case measure => simp [intOf]; omega
          · have i1 : (k : Int) < (l.length : Int) := by omega
            have i2 : ¬ (k : Int) < 60 := by omega
            as_aux_lemma =>
              obtain ⟨A3, c3, rfl, hF3, hb3⟩ := own_fates HO.out
              have hm3 := Mod.trans HM1.out HM.out (fun _ _ h => h)
              have hz3 := HM.out.size
              have hz1 := HM1.out.size
              have HF3 := Lib.hid hF3
              have HM3 := Lib.hid hm3
              have hml : loses fl ≤ fl.length := loses_le fl
              clear hF3 hb3 hm3 HO HM
              go_wp2_with fail
              clear i1
              try clear i2
              have HOW := Lib.hid (Int.le_refl 0)
              have hm4 : Mod (fun _ => False) wr (((wr.alloc (.map #[] 0)).alloc (.cells #[.map (some wr.heap.size)] 41)).alloc (.map #[] 0)) := (((Mod.refl _ _).alloc _).alloc _).alloc _
              have hbx : Has (((wr.alloc (.map #[] 0)).alloc (.cells #[.map (some wr.heap.size)] 41)).alloc (.map #[] 0)) (wr.heap.size + 1) [.map (some wr.heap.size)] 41 := (Has.lit (by simp)).alloc _
              have hmp : MpAt wr.heap.size [] (((wr.alloc (.map #[] 0)).alloc (.cells #[.map (some wr.heap.size)] 41)).alloc (.map #[] 0)) := MpAt.keep ⟨.map [], World.ownsMap_made (H := Unit) wr Try.prog 3 (plainElem Try.prog 3), Counts.nil⟩ (((Mod.refl (fun _ => False) _).alloc _).alloc _) (fun h => h)
              have hbk : MpAt (wr.heap.size + 2) [] (((wr.alloc (.map #[] 0)).alloc (.cells #[.map (some wr.heap.size)] 41)).alloc (.map #[] 0)) := ⟨.map [], by
                have h := World.ownsMap_made (H := Unit) ((wr.alloc (.map #[] 0)).alloc (.cells #[.map (some wr.heap.size)] 41)) Try.prog 3 (plainElem Try.prog 3)
                simpa using h, Counts.nil⟩
              have HX4 := Lib.hid (And.intro hm4 (And.intro hbx (And.intro hmp hbk)))
              clear hm4 hbx hmp hbk
              refine (new_calls 18 #[.pointer (some ⟨wr.heap.size + 1, 0, none⟩)] A3 c3 fl _ (HF3.out.cells.keep HX4.out.1 (fun _ _ h => h)) HF3.out.cap HF3.out.max HG.out.2.2 (by omega)).mono ?_
              rintro e w4 ⟨p, rfl, hN4, hfp4, hm5⟩
              obtain ⟨hm4, hbx, hmp, hbk⟩ := HX4.out
              have hrel : OnRel p.bn (wr.heap.size + 1) wr.heap.size (wr.heap.size + 2) (loses fl) (ksN 0) 0 60 w w4 :=
                ⟨fl, [], [], [], [], p, fun k => k = wr.heap.size + 1 ∨ k = wr.heap.size, ⟨⟨hN4, ⟨⟨hbx.keep hm5 (fun h => h), hmp.keep hm5 (fun h => h), by omega⟩, rfl⟩, fun k hk h => by
                    have := hfp4 k hk
                    simp only [size_alloc] at this
                    omega⟩, rfl, hbk.keep hm5 (fun h => h), ⟨fun h => by have := hfp4 _ h; simp only [size_alloc] at this; omega, by omega⟩, Fit.nil fl HG.out.2.1 HG.out.1, fun i hi => by have := hfp4 i hi; simp only [size_alloc] at this; omega, by omega, Mod.trans HM3.out (Mod.trans hm4 hm5 (fun _ _ h => h)) (fun _ _ h => h)⟩, by omega⟩
              have HR := Lib.hid hrel
              have hbx3 : wr.heap.size + 2 < w4.heap.size := (hbk.keep hm5 (fun h => h)).lt
              clear hrel hN4 hfp4 hm4 hm5 hbx hmp hbk HF3 HX4 HM3 HG HOW hml
              go_wp2_with fail
              generalize p.bn = bn at *
              generalize loses fl = L0 at *
              try simp only [Nat.add_assoc, Nat.reduceAdd]
              generalize hbm : wr.heap.size + 1 = bm at *
              generalize hbk : wr.heap.size + 2 = bk at *
              generalize hbq : wr.heap.size = bq at *
              go_loopw [15, 16] (fun al i wr => ∃ k : Nat, al = .int .i64 k ∧ i = .int .i64 k ∧ k ≤ 60 ∧ Hid (OnRel bn bm bq bk L0 (ksN k) k 60 w wr)) (fun _ i _ => 60 - (intOf i).toNat)
              case atStart => exact ⟨0, by go_num, by go_num, by omega, HR⟩
              case round =>
                obtain ⟨k2, rfl, rfl, hk2, HR2⟩ := hrel
                by_cases hkM : k2 < N % 50
                · have i1 : (k2 : Int) < ((N % 50 : Nat) : Int) := by omega
                  as_aux_lemma =>
                    have hk60 : k2 < 60 := by
                      first | omega | (obtain ⟨lz, wt, wb, st, got, pz, Fz, hON, hln⟩ := HR2.out; omega)
                    clear i1
                    try clear i2
                    have hq0 : (k2 : Int).tdiv 256 = 0 := by rw [Int.tdiv_eq_ediv_of_nonneg (by omega)]; omega
                    have hq1 : IntKind.u8.wrap (k2 : Int) = (k2 : Int) := by simp [IntKind.wrap, IntKind.bits, IntKind.signed]; omega
                    have hcv := cv_two 0 (UInt8.ofNat k2) wr
                    rw [ofNat_toNat k2 (by omega), show (((0 : UInt8).toNat : Nat) : Int) = 0 from rfl] at hcv
                    change _ = Result.ok (Value.string (kB k2)) _ at hcv
                    obtain ⟨ly, wty, wby, sty, goty, py, Fy, hOY, hly⟩ := HR2.out
                    have hA := (hOY.keep ((Mod.refl (fun _ => False) wr).alloc (.cells #[.int .u8 0, .int .u8 (k2 : Int)] 5))).ask (by omega) (kB k2) (by rw [kB_key k2 (by omega)]; exact fun h => by have := ksN_mem h; omega) rfl
                    rw [kB_key k2 (by omega), ← ksN_succ] at hA
                    have HA := Lib.hid hA
                    have HLY := Lib.hid hly
                    clear hA hOY hly HR2
                    try clear HON
                    go_wp2_with fail
                    refine HA.out.mono ?_
                    rintro e w5 ⟨Ag, cg, OUT, l3, wt3, wb3, st3, p3, F3, rfl, hfr, htw, hol, hO3, hl3, -⟩
                    have HFR := Lib.hid hfr
                    have HTW := Lib.hid htw
                    have HO3 := Lib.hid hO3
                    have hl60 : l3.length + (k2 + 1) ≤ 60 := by have := HLY.out; omega
                    clear hfr htw hO3 hl3 hcv HA HLY
                    go_wp2_with fail
                    go_loopw [18] (fun j wr => ∃ j2 : Nat, j = .int .i64 j2 ∧ j2 ≤ OUT.length ∧ Hid (OnAt bn bm bq bk L0 (ksN (k2 + 1)) (k2 + 1) l3 wt3 wb3 st3 (goty ++ OUT) (goty ++ OUT.take j2) p3 F3 w wr) ∧ Hid (Frames wr Ag cg OUT)) (fun j _ => OUT.length - (intOf j).toNat)
                    case atStart => exact ⟨0, by go_num, by omega, by rw [List.take_zero, List.append_nil]; exact HO3, HFR⟩
                    case round =>
                      obtain ⟨j2, rfl, hj2, HO4, HFR4⟩ := hrel
                      by_cases hjl : j2 < OUT.length
                      · have ij : (j2 : Int) < (OUT.length : Int) := by omega
                        have hcs := HFR4.out.cells
                        rcases hcs with hcl | ⟨gf, og, rfl, hcell⟩
                        · have hz0 := sv_len OUT; rw [hcl] at hz0; simp at hz0; omega
                        have ck := hcell j2 _ (sv_get OUT j2 hjl)
                        have hgf : gf < wr.heap.size := World.block_lt_of_cell? wr _ ck
                        have hs := HTW.out OUT[j2] (List.getElem_mem hjl)
                        have htk : OUT.take (j2 + 1) = OUT.take j2 ++ [OUT[j2]] := List.take_succ_eq_append_getElem hjl
                        obtain ⟨s, hse⟩ : ∃ s, OUT[j2] = s := ⟨_, rfl⟩
                        rw [hse] at ck hs htk
                        have x0 := fun (w' : World) (m : Mod0 wr.drew w') => ((Mod.of_drew_l m).cell (p := ⟨gf, og + j2, none⟩) hgf (fun h => h)).trans ck
                        have lk := fun (w' : World) (m : Mod0 wr.drew w') => (HO4.out.back.keep (Mod.of_drew_l m) (fun h => h)).look (keyF s) (by have := key_le s; omega)
                        have i0 : ∀ w' : World, (Instr.index 9 (.string s) (.int .i64 0)).run Try.prog w' = _ := fun w' => idx_at s 0 (by omega) w'
                        have i1 : ∀ w' : World, (Instr.index 9 (.string s) (.int .i64 1)).run Try.prog w' = _ := fun w' => idx_at s 1 (by omega) w'
                        have hkle := key_le s
                        have hlg : (goty ++ OUT.take j2).length ≤ 100000 := by
                          have h1 := HO4.out.fit.lb
                          have h2 := HO4.out.fit.lt
                          simp only [List.length_append, List.length_take] at h1 ⊢
                          omega
                        obtain ⟨GB, hGB⟩ : ∃ GB, goty ++ OUT.take j2 = GB := ⟨_, rfl⟩
                        have hgn : goty ++ OUT.take (j2 + 1) = GB ++ [s] := by rw [htk, ← List.append_assoc, hGB]
                        rw [hGB] at HO4 hlg
                        simp only [hGB] at lk
                        have hcl := cnt_le GB (keyF s)
                        obtain ⟨ka, hka⟩ : ∃ ka : Int, ((s.data.toList.getD 0 0).toNat : Int) = ka := ⟨_, rfl⟩
                        obtain ⟨kb, hkb⟩ : ∃ kb : Int, ((s.data.toList.getD 1 0).toNat : Int) = kb := ⟨_, rfl⟩
                        have hk : keyF s = ka * 256 + kb := by unfold keyF; rw [hka, hkb]
                        have hab : 0 ≤ ka ∧ ka ≤ 255 ∧ 0 ≤ kb ∧ kb ≤ 255 := by
                          have h1 := (s.data.toList.getD 0 0).toNat_lt
                          have h2 := (s.data.toList.getD 1 0).toNat_lt
                          omega
                        rw [hka] at i0
                        rw [hkb] at i1
                        have hput := fun D (hD : Counts D GB) => hD.put s
                        obtain ⟨c, hc'⟩ : ∃ c : Nat, cnt GB (keyF s) = c := ⟨_, rfl⟩
                        simp only [hc'] at lk hcl hput
                        rw [hk] at lk hkle
                        simp only [hk] at hput
                        have hw1 : IntKind.i64.wrap ka = ka := by rw [IntKind.wrap_i64]; omega
                        have hw2 : IntKind.i64.wrap kb = kb := by rw [IntKind.wrap_i64]; omega
                        have hw3 : IntKind.i64.wrap (ka * 256) = ka * 256 := by rw [IntKind.wrap_i64]; omega
                        have hw4 : IntKind.i64.wrap (ka * 256 + kb) = ka * 256 + kb := by rw [IntKind.wrap_i64]; omega
                        have hw5 : IntKind.i64.wrap ((c : Int) + 1) = (c : Int) + 1 := by rw [IntKind.wrap_i64]; omega
                        have hw6 : IntKind.i64.wrap ((j2 : Int) + 1) = (j2 : Int) + 1 := by rw [IntKind.wrap_i64]; omega
                        obtain ⟨D, hD1, hD2⟩ := HO4.out.back
                        have HD := Lib.hid (ownsMap_keep hD1 ((Mod.refl (fun _ => False) wr).drew) (fun h => h))
                        have HP := Lib.hid (hput D hD2)
                        have HGN := Lib.hid hgn
                        have ij0 : (0 : Int) ≤ (j2 : Int) := by omega
                        clear hka hkb hk hc' hput hD1 hD2 hcell htk hse hGB hgn ck
                        go_wp2_with fail
                        refine region_m (by kernel_rfl) ?_
                        simp only [List.length_cons, List.length_nil, List.replicate]
                        refine take0 (v := ?v109) (oi := ?o109) 0 ?hi109 (by kernel_rfl) (by kernel_rfl) (by kernel_rfl) ?hq109 ?hy109 ?_
                        case hi109 => (simp only [List.getElem?_toArray, List.getElem?_cons_zero, List.getElem?_cons_succ]; rfl)
                        case hq109 => exact fun _ _ _ h => h
                        case hy109 => first | (refine ry_not ?_; rfl) | (refine ry_run (by rfl) (fun w' hw' => ?_); go_simp; try rfl)
                        simp only [Act.put, List.setIfInBounds_toArray, List.set_cons_zero, List.set_cons_succ]
                        refine take0 (v := ?v110) (oi := ?o110) 1 ?hi110 (by kernel_rfl) (by kernel_rfl) (by kernel_rfl) ?hq110 ?hy110 ?_
                        case hi110 => (simp only [List.getElem?_toArray, List.getElem?_cons_zero, List.getElem?_cons_succ]; rfl)
                        case hq110 => exact fun _ _ _ h => h
                        case hy110 => first | (refine ry_not ?_; rfl) | (refine ry_run (by rfl) (fun w' hw' => ?_); go_simp; try rfl)
                        simp only [Act.put, List.setIfInBounds_toArray, List.set_cons_zero, List.set_cons_succ]
                        refine take0 (v := ?v111) (oi := ?o111) 2 ?hi111 (by kernel_rfl) (by kernel_rfl) (by kernel_rfl) ?hq111 ?hy111 ?_
                        case hi111 => (simp only [List.getElem?_toArray, List.getElem?_cons_zero, List.getElem?_cons_succ]; rfl)
                        case hq111 => exact fun _ _ _ h => h
                        case hy111 => first | (refine ry_not ?_; rfl) | (refine ry_run (by rfl) (fun w' hw' => ?_); go_simp; try rfl)
                        simp only [Act.put, List.setIfInBounds_toArray, List.set_cons_zero, List.set_cons_succ]
                        refine take0 (v := ?v112) (oi := ?o112) 3 ?hi112 (by kernel_rfl) (by kernel_rfl) (by kernel_rfl) ?hq112 ?hy112 ?_
                        case hi112 => (simp only [List.getElem?_toArray, List.getElem?_cons_zero, List.getElem?_cons_succ]; rfl)
                        case hq112 => exact fun _ _ _ h => h
                        case hy112 => first | (refine ry_not ?_; rfl) | (refine ry_run (by rfl) (fun w' hw' => ?_); go_simp; try rfl)
                        simp only [Act.put, List.setIfInBounds_toArray, List.set_cons_zero, List.set_cons_succ]
                        refine take0 (v := ?v113) (oi := ?o113) 4 ?hi113 (by kernel_rfl) (by kernel_rfl) (by kernel_rfl) ?hq113 ?hy113 ?_
                        case hi113 => (simp only [List.getElem?_toArray, List.getElem?_cons_zero, List.getElem?_cons_succ]; rfl)
                        case hq113 => exact fun _ _ _ h => h
                        case hy113 => first | (refine ry_not ?_; rfl) | (refine ry_run (by rfl) (fun w' hw' => ?_); go_simp; try rfl)
                        simp only [Act.put, List.setIfInBounds_toArray, List.set_cons_zero, List.set_cons_succ]
                        refine take0 (v := ?v114) (oi := ?o114) 5 ?hi114 (by kernel_rfl) (by kernel_rfl) (by kernel_rfl) ?hq114 ?hy114 ?_
                        case hi114 => (simp only [List.getElem?_toArray, List.getElem?_cons_zero, List.getElem?_cons_succ]; rfl)
                        case hq114 => exact fun _ _ _ h => h
                        case hy114 => first | (refine ry_not ?_; rfl) | (refine ry_run (by rfl) (fun w' hw' => ?_); go_simp; try rfl)
                        simp only [Act.put, List.setIfInBounds_toArray, List.set_cons_zero, List.set_cons_succ]
                        refine take0 (v := ?v115) (oi := ?o115) 6 ?hi115 (by kernel_rfl) (by kernel_rfl) (by kernel_rfl) ?hq115 ?hy115 ?_
                        case hi115 => (simp only [List.getElem?_toArray, List.getElem?_cons_zero, List.getElem?_cons_succ]; rfl)
                        case hq115 => exact fun _ _ _ h => h
                        case hy115 => first | (refine ry_not ?_; rfl) | (refine ry_run (by rfl) (fun w' hw' => ?_); go_simp; try rfl)
                        simp only [Act.put, List.setIfInBounds_toArray, List.set_cons_zero, List.set_cons_succ]
                        refine take0 (v := ?v116) (oi := ?o116) 7 ?hi116 (by kernel_rfl) (by kernel_rfl) (by kernel_rfl) ?hq116 ?hy116 ?_
                        case hi116 => (simp only [List.getElem?_toArray, List.getElem?_cons_zero, List.getElem?_cons_succ]; rfl)
                        case hq116 => exact fun _ _ _ h => h
                        case hy116 => first | (refine ry_not ?_; rfl) | (refine ry_run (by rfl) (fun w' hw' => ?_); go_simp; try rfl)
                        simp only [Act.put, List.setIfInBounds_toArray, List.set_cons_zero, List.set_cons_succ]
                        refine take0 (v := ?v117) (oi := ?o117) 8 ?hi117 (by kernel_rfl) (by kernel_rfl) (by kernel_rfl) ?hq117 ?hy117 ?_
                        case hi117 => (simp only [List.getElem?_toArray, List.getElem?_cons_zero, List.getElem?_cons_succ]; rfl)
                        case hq117 => exact fun _ _ _ h => h
                        case hy117 => first | (refine ry_not ?_; rfl) | (refine ry_run (by rfl) (fun w' hw' => ?_); go_simp; try rfl)
                        simp only [Act.put, List.setIfInBounds_toArray, List.set_cons_zero, List.set_cons_succ]
                        refine take0 (v := ?v118) (oi := ?o118) 9 ?hi118 (by kernel_rfl) (by kernel_rfl) (by kernel_rfl) ?hq118 ?hy118 ?_
                        case hi118 => (simp only [List.getElem?_toArray, List.getElem?_cons_zero, List.getElem?_cons_succ]; rfl)
                        case hq118 => exact fun _ _ _ h => h
                        case hy118 => first | (refine ry_not ?_; rfl) | (refine ry_run (by rfl) (fun w' hw' => ?_); go_simp; try rfl)
                        simp only [Act.put, List.setIfInBounds_toArray, List.set_cons_zero, List.set_cons_succ]
                        refine take0 (v := ?v119) (oi := ?o119) 10 ?hi119 (by kernel_rfl) (by kernel_rfl) (by kernel_rfl) ?hq119 ?hy119 ?_
                        case hi119 => (simp only [List.getElem?_toArray, List.getElem?_cons_zero, List.getElem?_cons_succ]; rfl)
                        case hq119 => exact fun _ _ _ h => h
                        case hy119 => first | (refine ry_not ?_; rfl) | (refine ry_run (by rfl) (fun w' hw' => ?_); go_simp; try rfl)
                        simp only [Act.put, List.setIfInBounds_toArray, List.set_cons_zero, List.set_cons_succ]
                        refine take0 (v := ?v120) (oi := ?o120) 11 ?hi120 (by kernel_rfl) (by kernel_rfl) (by kernel_rfl) ?hq120 ?hy120 ?_
                        case hi120 => (simp only [List.getElem?_toArray, List.getElem?_cons_zero, List.getElem?_cons_succ]; rfl)
                        case hq120 => exact fun _ _ _ h => h
                        case hy120 => first | (refine ry_not ?_; rfl) | (refine ry_run (by rfl) (fun w' hw' => ?_); go_simp; try rfl)
                        simp only [Act.put, List.setIfInBounds_toArray, List.set_cons_zero, List.set_cons_succ]
                        refine take0 (v := ?v121) (oi := ?o121) 12 ?hi121 (by kernel_rfl) (by kernel_rfl) (by kernel_rfl) ?hq121 ?hy121 ?_
                        case hi121 => (simp only [List.getElem?_toArray, List.getElem?_cons_zero, List.getElem?_cons_succ]; rfl)
                        case hq121 => exact fun _ _ _ h => h
                        case hy121 => first | (refine ry_not ?_; rfl) | (refine ry_run (by rfl) (fun w' hw' => ?_); go_simp; try rfl)
                        simp only [Act.put, List.setIfInBounds_toArray, List.set_cons_zero, List.set_cons_succ]
                        refine take0 (v := ?v122) (oi := ?o122) 13 ?hi122 (by kernel_rfl) (by kernel_rfl) (by kernel_rfl) ?hq122 ?hy122 ?_
                        case hi122 => (simp only [List.getElem?_toArray, List.getElem?_cons_zero, List.getElem?_cons_succ]; rfl)
                        case hq122 => exact fun _ _ _ h => h
                        case hy122 => first | (refine ry_not ?_; rfl) | (refine ry_run (by rfl) (fun w' hw' => ?_); go_simp; try rfl)
                        simp only [Act.put, List.setIfInBounds_toArray, List.set_cons_zero, List.set_cons_succ]
                        refine take0 (v := ?v123) (oi := ?o123) 14 ?hi123 (by kernel_rfl) (by kernel_rfl) (by kernel_rfl) ?hq123 ?hy123 ?_
                        case hi123 => (simp only [List.getElem?_toArray, List.getElem?_cons_zero, List.getElem?_cons_succ]; rfl)
                        case hq123 => exact fun _ _ _ h => h
                        case hy123 => first | (refine ry_not ?_; rfl) | (refine ry_run (by rfl) (fun w' hw' => ?_); go_simp; try rfl)
                        simp only [Act.put, List.setIfInBounds_toArray, List.set_cons_zero, List.set_cons_succ]
                        refine take0 (v := ?v124) (oi := ?o124) 15 ?hi124 (by kernel_rfl) (by kernel_rfl) (by kernel_rfl) ?hq124 ?hy124 ?_
                        case hi124 => (simp only [List.getElem?_toArray, List.getElem?_cons_zero, List.getElem?_cons_succ]; rfl)
                        case hq124 => exact fun _ _ _ h => h
                        case hy124 => first | (refine ry_not ?_; rfl) | (refine ry_run (by rfl) (fun w' hw' => ?_); go_simp; try rfl)
                        simp only [Act.put, List.setIfInBounds_toArray, List.set_cons_zero, List.set_cons_succ]
                        refine take0 (v := ?v125) (oi := ?o125) 16 ?hi125 (by kernel_rfl) (by kernel_rfl) (by kernel_rfl) ?hq125 ?hy125 ?_
                        case hi125 => (simp only [List.getElem?_toArray, List.getElem?_cons_zero, List.getElem?_cons_succ]; rfl)
                        case hq125 => exact fun _ _ _ h => h
                        case hy125 => first | (refine ry_not ?_; rfl) | (refine ry_run (by rfl) (fun w' hw' => ?_); go_simp; try rfl)
                        simp only [Act.put, List.setIfInBounds_toArray, List.set_cons_zero, List.set_cons_succ]
                        refine step0 (o := ?o126) 17 (by kernel_rfl) ?hi126 ?hw126 ?_
                        case hi126 => (simp only [List.getElem?_toArray, List.getElem?_cons_zero, List.getElem?_cons_succ]; rfl)
                        case hw126 => rfl
                        refine upd_step (.tmp 121) (.tmp 135) (.tmp 137) 41 rfl 3 3 (int_keyed Try.underlying3) Try.underlying41 (plainElem Try.prog 3) bk GB.length D rfl HD.out (by unfold maxLen; omega) (.int .i64 (ka * 256 + kb)) (.int .i64 ((c : Int) + 1)) (.int .i64 (ka * 256 + kb)) rfl rfl (keyOf_int_mk Try.underlying3 (wf_key (by omega))) (.lit (.int .i64 ((c : Int) + 1))) [] (plainElem_int Try.underlying3 (WalkArith.wf_i64 (by omega))) ?_
                        intro w8 hown8 hgrow8
                        refine ⟨.inr (by kernel_rfl), ?_⟩
                        simp only [Act.put, List.setIfInBounds_toArray, List.set_cons_zero, List.set_cons_succ]
                        refine wpAnyM_done (by kernel_rfl) ?_
                        clear x0 lk i0 i1
                        have hm8 : Mod (fun k => k = bk) wr w8 := Mod.grown ((Mod.refl (fun k => k = bk) wr).drew) hgrow8 (fun k hk _ => by injection hk with hk; exact hk.symm)
                        have hO8 := HO4.out.upd hm8 ⟨_, by rw [List.length_append]; exact hown8, HP.out⟩
                        have hF8 : Frames w8 (some ⟨gf, og, none⟩) cg OUT := HFR4.out.keep hm8 (fun a ha e => by
                          obtain ⟨cur, fr, hh⟩ := HFR4.out.row a ha
                          exact HO4.out.back.ne hh e.symm)
                        rw [← HGN.out] at hO8
                        have HO8 := Lib.hid hO8
                        have HF8 := Lib.hid hF8
                        clear hm8 hO8 hF8 hown8 hgrow8
                        go_wp2_with fail
                        go_roundw
                        case rel => exact ⟨j2 + 1, by go_num, by omega, HO8, HF8⟩
                        case measure => simp [intOf]; omega
                      · have ij : ¬ (j2 : Int) < (OUT.length : Int) := by omega
                        have hje : j2 = OUT.length := by omega
                        subst hje
                        have HEND := HO4
                        rw [List.take_length] at HEND
                        clear HO4 HFR4
                        have hw15 : IntKind.i64.wrap ((k2 : Int) + 1) = (k2 : Int) + 1 := by rw [IntKind.wrap_i64]; omega
                        go_wp2_with fail
                        go_roundw
                        case rel => exact ⟨k2 + 1, by go_num, by go_num, by omega, Lib.hid ⟨_, _, _, _, _, _, _, HEND.out, hl60⟩⟩
                        case measure => simp [intOf]; omega
                · have i1 : ¬ (k2 : Int) < ((N % 50 : Nat) : Int) := by omega
                  obtain ⟨lz, wt, wb, st, got, pz, Fz, hON, hln⟩ := HR2.out
                  have hLF := left_calls wr hON.both.net
                  rw [hON.bn] at hLF
                  have HLF := Lib.hid hLF
                  have HON := Lib.hid hON
                  clear hLF hON
                  go_wp2_with fail
                  refine HLF.out.mono ?_
                  rintro e w' ⟨rfl, hw⟩
                  have hw := hw.symm
                  subst hw
                  by_cases hl0 : 0 < lz.length
                  · have i2 : (0 : Int) < (lz.length : Int) := by omega
                    as_aux_lemma =>
                      have hk60 : k2 < 60 := by
                        first | omega | (obtain ⟨lz, wt, wb, st, got, pz, Fz, hON, hln⟩ := HR2.out; omega)
                      clear i1
                      try clear i2
                      have hq0 : (k2 : Int).tdiv 256 = 0 := by rw [Int.tdiv_eq_ediv_of_nonneg (by omega)]; omega
                      have hq1 : IntKind.u8.wrap (k2 : Int) = (k2 : Int) := by simp [IntKind.wrap, IntKind.bits, IntKind.signed]; omega
                      have hcv := cv_two 0 (UInt8.ofNat k2) wr
                      rw [ofNat_toNat k2 (by omega), show (((0 : UInt8).toNat : Nat) : Int) = 0 from rfl] at hcv
                      change _ = Result.ok (Value.string (kB k2)) _ at hcv
                      obtain ⟨ly, wty, wby, sty, goty, py, Fy, hOY, hly⟩ := HR2.out
                      have hA := (hOY.keep ((Mod.refl (fun _ => False) wr).alloc (.cells #[.int .u8 0, .int .u8 (k2 : Int)] 5))).ask (by omega) (kB k2) (by rw [kB_key k2 (by omega)]; exact fun h => by have := ksN_mem h; omega) rfl
                      rw [kB_key k2 (by omega), ← ksN_succ] at hA
                      have HA := Lib.hid hA
                      have HLY := Lib.hid hly
                      clear hA hOY hly HR2
                      try clear HON
                      go_wp2_with fail
                      refine HA.out.mono ?_
                      rintro e w5 ⟨Ag, cg, OUT, l3, wt3, wb3, st3, p3, F3, rfl, hfr, htw, hol, hO3, hl3, -⟩
                      have HFR := Lib.hid hfr
                      have HTW := Lib.hid htw
                      have HO3 := Lib.hid hO3
                      have hl60 : l3.length + (k2 + 1) ≤ 60 := by have := HLY.out; omega
                      clear hfr htw hO3 hl3 hcv HA HLY
                      go_wp2_with fail
                      go_loopw [18] (fun j wr => ∃ j2 : Nat, j = .int .i64 j2 ∧ j2 ≤ OUT.length ∧ Hid (OnAt bn bm bq bk L0 (ksN (k2 + 1)) (k2 + 1) l3 wt3 wb3 st3 (goty ++ OUT) (goty ++ OUT.take j2) p3 F3 w wr) ∧ Hid (Frames wr Ag cg OUT)) (fun j _ => OUT.length - (intOf j).toNat)
                      case atStart => exact ⟨0, by go_num, by omega, by rw [List.take_zero, List.append_nil]; exact HO3, HFR⟩
                      case round =>
                        obtain ⟨j2, rfl, hj2, HO4, HFR4⟩ := hrel
                        by_cases hjl : j2 < OUT.length
                        · have ij : (j2 : Int) < (OUT.length : Int) := by omega
                          have hcs := HFR4.out.cells
                          rcases hcs with hcl | ⟨gf, og, rfl, hcell⟩
                          · have hz0 := sv_len OUT; rw [hcl] at hz0; simp at hz0; omega
                          have ck := hcell j2 _ (sv_get OUT j2 hjl)
                          have hgf : gf < wr.heap.size := World.block_lt_of_cell? wr _ ck
                          have hs := HTW.out OUT[j2] (List.getElem_mem hjl)
                          have htk : OUT.take (j2 + 1) = OUT.take j2 ++ [OUT[j2]] := List.take_succ_eq_append_getElem hjl
                          obtain ⟨s, hse⟩ : ∃ s, OUT[j2] = s := ⟨_, rfl⟩
                          rw [hse] at ck hs htk
                          have x0 := fun (w' : World) (m : Mod0 wr.drew w') => ((Mod.of_drew_l m).cell (p := ⟨gf, og + j2, none⟩) hgf (fun h => h)).trans ck
                          have lk := fun (w' : World) (m : Mod0 wr.drew w') => (HO4.out.back.keep (Mod.of_drew_l m) (fun h => h)).look (keyF s) (by have := key_le s; omega)
                          have i0 : ∀ w' : World, (Instr.index 9 (.string s) (.int .i64 0)).run Try.prog w' = _ := fun w' => idx_at s 0 (by omega) w'
                          have i1 : ∀ w' : World, (Instr.index 9 (.string s) (.int .i64 1)).run Try.prog w' = _ := fun w' => idx_at s 1 (by omega) w'
                          have hkle := key_le s
                          have hlg : (goty ++ OUT.take j2).length ≤ 100000 := by
                            have h1 := HO4.out.fit.lb
                            have h2 := HO4.out.fit.lt
                            simp only [List.length_append, List.length_take] at h1 ⊢
                            omega
                          obtain ⟨GB, hGB⟩ : ∃ GB, goty ++ OUT.take j2 = GB := ⟨_, rfl⟩
                          have hgn : goty ++ OUT.take (j2 + 1) = GB ++ [s] := by rw [htk, ← List.append_assoc, hGB]
                          rw [hGB] at HO4 hlg
                          simp only [hGB] at lk
                          have hcl := cnt_le GB (keyF s)
                          obtain ⟨ka, hka⟩ : ∃ ka : Int, ((s.data.toList.getD 0 0).toNat : Int) = ka := ⟨_, rfl⟩
                          obtain ⟨kb, hkb⟩ : ∃ kb : Int, ((s.data.toList.getD 1 0).toNat : Int) = kb := ⟨_, rfl⟩
                          have hk : keyF s = ka * 256 + kb := by unfold keyF; rw [hka, hkb]
                          have hab : 0 ≤ ka ∧ ka ≤ 255 ∧ 0 ≤ kb ∧ kb ≤ 255 := by
                            have h1 := (s.data.toList.getD 0 0).toNat_lt
                            have h2 := (s.data.toList.getD 1 0).toNat_lt
                            omega
                          rw [hka] at i0
                          rw [hkb] at i1
                          have hput := fun D (hD : Counts D GB) => hD.put s
                          obtain ⟨c, hc'⟩ : ∃ c : Nat, cnt GB (keyF s) = c := ⟨_, rfl⟩
                          simp only [hc'] at lk hcl hput
                          rw [hk] at lk hkle
                          simp only [hk] at hput
                          have hw1 : IntKind.i64.wrap ka = ka := by rw [IntKind.wrap_i64]; omega
                          have hw2 : IntKind.i64.wrap kb = kb := by rw [IntKind.wrap_i64]; omega
                          have hw3 : IntKind.i64.wrap (ka * 256) = ka * 256 := by rw [IntKind.wrap_i64]; omega
                          have hw4 : IntKind.i64.wrap (ka * 256 + kb) = ka * 256 + kb := by rw [IntKind.wrap_i64]; omega
                          have hw5 : IntKind.i64.wrap ((c : Int) + 1) = (c : Int) + 1 := by rw [IntKind.wrap_i64]; omega
                          have hw6 : IntKind.i64.wrap ((j2 : Int) + 1) = (j2 : Int) + 1 := by rw [IntKind.wrap_i64]; omega
                          obtain ⟨D, hD1, hD2⟩ := HO4.out.back
                          have HD := Lib.hid (ownsMap_keep hD1 ((Mod.refl (fun _ => False) wr).drew) (fun h => h))
                          have HP := Lib.hid (hput D hD2)
                          have HGN := Lib.hid hgn
                          have ij0 : (0 : Int) ≤ (j2 : Int) := by omega
                          clear hka hkb hk hc' hput hD1 hD2 hcell htk hse hGB hgn ck
                          go_wp2_with fail
                          refine region_m (by kernel_rfl) ?_
                          simp only [List.length_cons, List.length_nil, List.replicate]
                          refine take0 (v := ?v127) (oi := ?o127) 0 ?hi127 (by kernel_rfl) (by kernel_rfl) (by kernel_rfl) ?hq127 ?hy127 ?_
                          case hi127 => (simp only [List.getElem?_toArray, List.getElem?_cons_zero, List.getElem?_cons_succ]; rfl)
                          case hq127 => exact fun _ _ _ h => h
                          case hy127 => first | (refine ry_not ?_; rfl) | (refine ry_run (by rfl) (fun w' hw' => ?_); go_simp; try rfl)
                          simp only [Act.put, List.setIfInBounds_toArray, List.set_cons_zero, List.set_cons_succ]
                          refine take0 (v := ?v128) (oi := ?o128) 1 ?hi128 (by kernel_rfl) (by kernel_rfl) (by kernel_rfl) ?hq128 ?hy128 ?_
                          case hi128 => (simp only [List.getElem?_toArray, List.getElem?_cons_zero, List.getElem?_cons_succ]; rfl)
                          case hq128 => exact fun _ _ _ h => h
                          case hy128 => first | (refine ry_not ?_; rfl) | (refine ry_run (by rfl) (fun w' hw' => ?_); go_simp; try rfl)
                          simp only [Act.put, List.setIfInBounds_toArray, List.set_cons_zero, List.set_cons_succ]
                          refine take0 (v := ?v129) (oi := ?o129) 2 ?hi129 (by kernel_rfl) (by kernel_rfl) (by kernel_rfl) ?hq129 ?hy129 ?_
                          case hi129 => (simp only [List.getElem?_toArray, List.getElem?_cons_zero, List.getElem?_cons_succ]; rfl)
                          case hq129 => exact fun _ _ _ h => h
                          case hy129 => first | (refine ry_not ?_; rfl) | (refine ry_run (by rfl) (fun w' hw' => ?_); go_simp; try rfl)
                          simp only [Act.put, List.setIfInBounds_toArray, List.set_cons_zero, List.set_cons_succ]
                          refine take0 (v := ?v130) (oi := ?o130) 3 ?hi130 (by kernel_rfl) (by kernel_rfl) (by kernel_rfl) ?hq130 ?hy130 ?_
                          case hi130 => (simp only [List.getElem?_toArray, List.getElem?_cons_zero, List.getElem?_cons_succ]; rfl)
                          case hq130 => exact fun _ _ _ h => h
                          case hy130 => first | (refine ry_not ?_; rfl) | (refine ry_run (by rfl) (fun w' hw' => ?_); go_simp; try rfl)
                          simp only [Act.put, List.setIfInBounds_toArray, List.set_cons_zero, List.set_cons_succ]
                          refine take0 (v := ?v131) (oi := ?o131) 4 ?hi131 (by kernel_rfl) (by kernel_rfl) (by kernel_rfl) ?hq131 ?hy131 ?_
                          case hi131 => (simp only [List.getElem?_toArray, List.getElem?_cons_zero, List.getElem?_cons_succ]; rfl)
                          case hq131 => exact fun _ _ _ h => h
                          case hy131 => first | (refine ry_not ?_; rfl) | (refine ry_run (by rfl) (fun w' hw' => ?_); go_simp; try rfl)
                          simp only [Act.put, List.setIfInBounds_toArray, List.set_cons_zero, List.set_cons_succ]
                          refine take0 (v := ?v132) (oi := ?o132) 5 ?hi132 (by kernel_rfl) (by kernel_rfl) (by kernel_rfl) ?hq132 ?hy132 ?_
                          case hi132 => (simp only [List.getElem?_toArray, List.getElem?_cons_zero, List.getElem?_cons_succ]; rfl)
                          case hq132 => exact fun _ _ _ h => h
                          case hy132 => first | (refine ry_not ?_; rfl) | (refine ry_run (by rfl) (fun w' hw' => ?_); go_simp; try rfl)
                          simp only [Act.put, List.setIfInBounds_toArray, List.set_cons_zero, List.set_cons_succ]
                          refine take0 (v := ?v133) (oi := ?o133) 6 ?hi133 (by kernel_rfl) (by kernel_rfl) (by kernel_rfl) ?hq133 ?hy133 ?_
                          case hi133 => (simp only [List.getElem?_toArray, List.getElem?_cons_zero, List.getElem?_cons_succ]; rfl)
                          case hq133 => exact fun _ _ _ h => h
                          case hy133 => first | (refine ry_not ?_; rfl) | (refine ry_run (by rfl) (fun w' hw' => ?_); go_simp; try rfl)
                          simp only [Act.put, List.setIfInBounds_toArray, List.set_cons_zero, List.set_cons_succ]
                          refine take0 (v := ?v134) (oi := ?o134) 7 ?hi134 (by kernel_rfl) (by kernel_rfl) (by kernel_rfl) ?hq134 ?hy134 ?_
                          case hi134 => (simp only [List.getElem?_toArray, List.getElem?_cons_zero, List.getElem?_cons_succ]; rfl)
                          case hq134 => exact fun _ _ _ h => h
                          case hy134 => first | (refine ry_not ?_; rfl) | (refine ry_run (by rfl) (fun w' hw' => ?_); go_simp; try rfl)
                          simp only [Act.put, List.setIfInBounds_toArray, List.set_cons_zero, List.set_cons_succ]
                          refine take0 (v := ?v135) (oi := ?o135) 8 ?hi135 (by kernel_rfl) (by kernel_rfl) (by kernel_rfl) ?hq135 ?hy135 ?_
                          case hi135 => (simp only [List.getElem?_toArray, List.getElem?_cons_zero, List.getElem?_cons_succ]; rfl)
                          case hq135 => exact fun _ _ _ h => h
                          case hy135 => first | (refine ry_not ?_; rfl) | (refine ry_run (by rfl) (fun w' hw' => ?_); go_simp; try rfl)
                          simp only [Act.put, List.setIfInBounds_toArray, List.set_cons_zero, List.set_cons_succ]
                          refine take0 (v := ?v136) (oi := ?o136) 9 ?hi136 (by kernel_rfl) (by kernel_rfl) (by kernel_rfl) ?hq136 ?hy136 ?_
                          case hi136 => (simp only [List.getElem?_toArray, List.getElem?_cons_zero, List.getElem?_cons_succ]; rfl)
                          case hq136 => exact fun _ _ _ h => h
                          case hy136 => first | (refine ry_not ?_; rfl) | (refine ry_run (by rfl) (fun w' hw' => ?_); go_simp; try rfl)
                          simp only [Act.put, List.setIfInBounds_toArray, List.set_cons_zero, List.set_cons_succ]
                          refine take0 (v := ?v137) (oi := ?o137) 10 ?hi137 (by kernel_rfl) (by kernel_rfl) (by kernel_rfl) ?hq137 ?hy137 ?_
                          case hi137 => (simp only [List.getElem?_toArray, List.getElem?_cons_zero, List.getElem?_cons_succ]; rfl)
                          case hq137 => exact fun _ _ _ h => h
                          case hy137 => first | (refine ry_not ?_; rfl) | (refine ry_run (by rfl) (fun w' hw' => ?_); go_simp; try rfl)
                          simp only [Act.put, List.setIfInBounds_toArray, List.set_cons_zero, List.set_cons_succ]
                          refine take0 (v := ?v138) (oi := ?o138) 11 ?hi138 (by kernel_rfl) (by kernel_rfl) (by kernel_rfl) ?hq138 ?hy138 ?_
                          case hi138 => (simp only [List.getElem?_toArray, List.getElem?_cons_zero, List.getElem?_cons_succ]; rfl)
                          case hq138 => exact fun _ _ _ h => h
                          case hy138 => first | (refine ry_not ?_; rfl) | (refine ry_run (by rfl) (fun w' hw' => ?_); go_simp; try rfl)
                          simp only [Act.put, List.setIfInBounds_toArray, List.set_cons_zero, List.set_cons_succ]
                          refine take0 (v := ?v139) (oi := ?o139) 12 ?hi139 (by kernel_rfl) (by kernel_rfl) (by kernel_rfl) ?hq139 ?hy139 ?_
                          case hi139 => (simp only [List.getElem?_toArray, List.getElem?_cons_zero, List.getElem?_cons_succ]; rfl)
                          case hq139 => exact fun _ _ _ h => h
                          case hy139 => first | (refine ry_not ?_; rfl) | (refine ry_run (by rfl) (fun w' hw' => ?_); go_simp; try rfl)
                          simp only [Act.put, List.setIfInBounds_toArray, List.set_cons_zero, List.set_cons_succ]
                          refine take0 (v := ?v140) (oi := ?o140) 13 ?hi140 (by kernel_rfl) (by kernel_rfl) (by kernel_rfl) ?hq140 ?hy140 ?_
                          case hi140 => (simp only [List.getElem?_toArray, List.getElem?_cons_zero, List.getElem?_cons_succ]; rfl)
                          case hq140 => exact fun _ _ _ h => h
                          case hy140 => first | (refine ry_not ?_; rfl) | (refine ry_run (by rfl) (fun w' hw' => ?_); go_simp; try rfl)
                          simp only [Act.put, List.setIfInBounds_toArray, List.set_cons_zero, List.set_cons_succ]
                          refine take0 (v := ?v141) (oi := ?o141) 14 ?hi141 (by kernel_rfl) (by kernel_rfl) (by kernel_rfl) ?hq141 ?hy141 ?_
                          case hi141 => (simp only [List.getElem?_toArray, List.getElem?_cons_zero, List.getElem?_cons_succ]; rfl)
                          case hq141 => exact fun _ _ _ h => h
                          case hy141 => first | (refine ry_not ?_; rfl) | (refine ry_run (by rfl) (fun w' hw' => ?_); go_simp; try rfl)
                          simp only [Act.put, List.setIfInBounds_toArray, List.set_cons_zero, List.set_cons_succ]
                          refine take0 (v := ?v142) (oi := ?o142) 15 ?hi142 (by kernel_rfl) (by kernel_rfl) (by kernel_rfl) ?hq142 ?hy142 ?_
                          case hi142 => (simp only [List.getElem?_toArray, List.getElem?_cons_zero, List.getElem?_cons_succ]; rfl)
                          case hq142 => exact fun _ _ _ h => h
                          case hy142 => first | (refine ry_not ?_; rfl) | (refine ry_run (by rfl) (fun w' hw' => ?_); go_simp; try rfl)
                          simp only [Act.put, List.setIfInBounds_toArray, List.set_cons_zero, List.set_cons_succ]
                          refine take0 (v := ?v143) (oi := ?o143) 16 ?hi143 (by kernel_rfl) (by kernel_rfl) (by kernel_rfl) ?hq143 ?hy143 ?_
                          case hi143 => (simp only [List.getElem?_toArray, List.getElem?_cons_zero, List.getElem?_cons_succ]; rfl)
                          case hq143 => exact fun _ _ _ h => h
                          case hy143 => first | (refine ry_not ?_; rfl) | (refine ry_run (by rfl) (fun w' hw' => ?_); go_simp; try rfl)
                          simp only [Act.put, List.setIfInBounds_toArray, List.set_cons_zero, List.set_cons_succ]
                          refine step0 (o := ?o144) 17 (by kernel_rfl) ?hi144 ?hw144 ?_
                          case hi144 => (simp only [List.getElem?_toArray, List.getElem?_cons_zero, List.getElem?_cons_succ]; rfl)
                          case hw144 => rfl
                          refine upd_step (.tmp 121) (.tmp 135) (.tmp 137) 41 rfl 3 3 (int_keyed Try.underlying3) Try.underlying41 (plainElem Try.prog 3) bk GB.length D rfl HD.out (by unfold maxLen; omega) (.int .i64 (ka * 256 + kb)) (.int .i64 ((c : Int) + 1)) (.int .i64 (ka * 256 + kb)) rfl rfl (keyOf_int_mk Try.underlying3 (wf_key (by omega))) (.lit (.int .i64 ((c : Int) + 1))) [] (plainElem_int Try.underlying3 (WalkArith.wf_i64 (by omega))) ?_
                          intro w8 hown8 hgrow8
                          refine ⟨.inr (by kernel_rfl), ?_⟩
                          simp only [Act.put, List.setIfInBounds_toArray, List.set_cons_zero, List.set_cons_succ]
                          refine wpAnyM_done (by kernel_rfl) ?_
                          clear x0 lk i0 i1
                          have hm8 : Mod (fun k => k = bk) wr w8 := Mod.grown ((Mod.refl (fun k => k = bk) wr).drew) hgrow8 (fun k hk _ => by injection hk with hk; exact hk.symm)
                          have hO8 := HO4.out.upd hm8 ⟨_, by rw [List.length_append]; exact hown8, HP.out⟩
                          have hF8 : Frames w8 (some ⟨gf, og, none⟩) cg OUT := HFR4.out.keep hm8 (fun a ha e => by
                            obtain ⟨cur, fr, hh⟩ := HFR4.out.row a ha
                            exact HO4.out.back.ne hh e.symm)
                          rw [← HGN.out] at hO8
                          have HO8 := Lib.hid hO8
                          have HF8 := Lib.hid hF8
                          clear hm8 hO8 hF8 hown8 hgrow8
                          go_wp2_with fail
                          go_roundw
                          case rel => exact ⟨j2 + 1, by go_num, by omega, HO8, HF8⟩
                          case measure => simp [intOf]; omega
                        · have ij : ¬ (j2 : Int) < (OUT.length : Int) := by omega
                          have hje : j2 = OUT.length := by omega
                          subst hje
                          have HEND := HO4
                          rw [List.take_length] at HEND
                          clear HO4 HFR4
                          have hw15 : IntKind.i64.wrap ((k2 : Int) + 1) = (k2 : Int) + 1 := by rw [IntKind.wrap_i64]; omega
                          go_wp2_with fail
                          go_roundw
                          case rel => exact ⟨k2 + 1, by go_num, by go_num, by omega, Lib.hid ⟨_, _, _, _, _, _, _, HEND.out, hl60⟩⟩
                          case measure => simp [intOf]; omega
                  · have i2 : ¬ (0 : Int) < (lz.length : Int) := by omega
                    as_aux_lemma =>
                      obtain rfl : lz = [] := List.eq_nil_of_length_eq_zero (by omega)
                      have HE : Hid (ERel bn bm bq bk L0 k2 0 w wr) := Lib.hid ⟨wt, wb, st, got, pz, Fz, by show OnAt _ _ _ _ _ (ksN k2 ++ []) _ _ _ _ _ _ _ _ _ _ _; rw [List.append_nil]; exact HON.out, fun h => by omega⟩
                      clear HON HR2 hln
                      go_wp2_with fail
                      clear i1 i2
                      go_loopw [19] (fun j wr => ∃ j4 : Nat, j = .int .i64 j4 ∧ j4 ≤ 3 ∧ Hid (ERel bn bm bq bk L0 k2 j4 w wr)) (fun j _ => 3 - (intOf j).toNat)
                      case atStart => exact ⟨0, by go_num, by omega, HE⟩
                      case round =>
                        obtain ⟨j4, rfl, hj4, HE4⟩ := hrel
                        by_cases hj3 : j4 < 3
                        · have i1 : (j4 : Int) < 3 := by omega
                          have hq1 : IntKind.u8.wrap (j4 : Int) = (j4 : Int) := by simp [IntKind.wrap, IntKind.bits, IntKind.signed]; omega
                          have hcv := cv_two 255 (UInt8.ofNat j4) wr
                          rw [ofNat_toNat j4 (by omega), show (((255 : UInt8).toNat : Nat) : Int) = 255 from rfl] at hcv
                          change _ = Result.ok (Value.string (eB j4)) _ at hcv
                          obtain ⟨wty, wby, sty, goty, py, Fy, hOY, hly⟩ := HE4.out
                          have hA := (hOY.keep ((Mod.refl (fun _ => False) wr).alloc (.cells #[.int .u8 255, .int .u8 (j4 : Int)] 5))).ask (by omega) (eB j4) (by
                            rw [eB_key j4 (by omega)]
                            intro h
                            rcases List.mem_append.1 h with h | h
                            · have := ksN_mem h; omega
                            · have := eK_mem h; omega) rfl
                          rw [eB_key j4 (by omega), List.append_assoc, ← eK_succ] at hA
                          have HA := Lib.hid hA
                          clear hA hOY hly HE4 HE
                          go_wp2_with fail
                          refine HA.out.mono ?_
                          rintro e w5 ⟨Ag, cg, OUT, l3, wt3, wb3, st3, p3, F3, rfl, hfr, htw, hol, hO3, hl3, hnil⟩
                          obtain ⟨rfl, rfl, rfl⟩ := hnil (by simp)
                          have HFR := Lib.hid hfr
                          have HTW := Lib.hid htw
                          have HO3 := Lib.hid hO3
                          clear hfr htw hO3 hl3 hcv HA hnil
                          go_wp2_with fail
                          go_loopw [21] (fun j wr => ∃ j2 : Nat, j = .int .i64 j2 ∧ j2 ≤ OUT.length ∧ Hid (OnAt bn bm bq bk L0 (ksN k2 ++ eK (j4 + 1)) (k2 + j4 + 1) [] [] [] st3 (goty ++ OUT) (goty ++ OUT.take j2) p3 F3 w wr) ∧ Hid (Frames wr Ag cg OUT)) (fun j _ => OUT.length - (intOf j).toNat)
                          case atStart => exact ⟨0, by go_num, by omega, by rw [List.take_zero, List.append_nil]; exact HO3, HFR⟩
                          case round =>
                            obtain ⟨j2, rfl, hj2, HO4, HFR4⟩ := hrel
                            by_cases hjl : j2 < OUT.length
                            · have ij : (j2 : Int) < (OUT.length : Int) := by omega
                              have hcs := HFR4.out.cells
                              rcases hcs with hcl | ⟨gf, og, rfl, hcell⟩
                              · have hz0 := sv_len OUT; rw [hcl] at hz0; simp at hz0; omega
                              have ck := hcell j2 _ (sv_get OUT j2 hjl)
                              have hgf : gf < wr.heap.size := World.block_lt_of_cell? wr _ ck
                              have hs := HTW.out OUT[j2] (List.getElem_mem hjl)
                              have htk : OUT.take (j2 + 1) = OUT.take j2 ++ [OUT[j2]] := List.take_succ_eq_append_getElem hjl
                              obtain ⟨s, hse⟩ : ∃ s, OUT[j2] = s := ⟨_, rfl⟩
                              rw [hse] at ck hs htk
                              have x0 := fun (w' : World) (m : Mod0 wr.drew w') => ((Mod.of_drew_l m).cell (p := ⟨gf, og + j2, none⟩) hgf (fun h => h)).trans ck
                              have lk := fun (w' : World) (m : Mod0 wr.drew w') => (HO4.out.back.keep (Mod.of_drew_l m) (fun h => h)).look (keyF s) (by have := key_le s; omega)
                              have i0 : ∀ w' : World, (Instr.index 9 (.string s) (.int .i64 0)).run Try.prog w' = _ := fun w' => idx_at s 0 (by omega) w'
                              have i1 : ∀ w' : World, (Instr.index 9 (.string s) (.int .i64 1)).run Try.prog w' = _ := fun w' => idx_at s 1 (by omega) w'
                              have hkle := key_le s
                              have hlg : (goty ++ OUT.take j2).length ≤ 100000 := by
                                have h1 := HO4.out.fit.lb
                                have h2 := HO4.out.fit.lt
                                simp only [List.length_append, List.length_take] at h1 ⊢
                                omega
                              obtain ⟨GB, hGB⟩ : ∃ GB, goty ++ OUT.take j2 = GB := ⟨_, rfl⟩
                              have hgn : goty ++ OUT.take (j2 + 1) = GB ++ [s] := by rw [htk, ← List.append_assoc, hGB]
                              rw [hGB] at HO4 hlg
                              simp only [hGB] at lk
                              have hcl := cnt_le GB (keyF s)
                              obtain ⟨ka, hka⟩ : ∃ ka : Int, ((s.data.toList.getD 0 0).toNat : Int) = ka := ⟨_, rfl⟩
                              obtain ⟨kb, hkb⟩ : ∃ kb : Int, ((s.data.toList.getD 1 0).toNat : Int) = kb := ⟨_, rfl⟩
                              have hk : keyF s = ka * 256 + kb := by unfold keyF; rw [hka, hkb]
                              have hab : 0 ≤ ka ∧ ka ≤ 255 ∧ 0 ≤ kb ∧ kb ≤ 255 := by
                                have h1 := (s.data.toList.getD 0 0).toNat_lt
                                have h2 := (s.data.toList.getD 1 0).toNat_lt
                                omega
                              rw [hka] at i0
                              rw [hkb] at i1
                              have hput := fun D (hD : Counts D GB) => hD.put s
                              obtain ⟨c, hc'⟩ : ∃ c : Nat, cnt GB (keyF s) = c := ⟨_, rfl⟩
                              simp only [hc'] at lk hcl hput
                              rw [hk] at lk hkle
                              simp only [hk] at hput
                              have hw1 : IntKind.i64.wrap ka = ka := by rw [IntKind.wrap_i64]; omega
                              have hw2 : IntKind.i64.wrap kb = kb := by rw [IntKind.wrap_i64]; omega
                              have hw3 : IntKind.i64.wrap (ka * 256) = ka * 256 := by rw [IntKind.wrap_i64]; omega
                              have hw4 : IntKind.i64.wrap (ka * 256 + kb) = ka * 256 + kb := by rw [IntKind.wrap_i64]; omega
                              have hw5 : IntKind.i64.wrap ((c : Int) + 1) = (c : Int) + 1 := by rw [IntKind.wrap_i64]; omega
                              have hw6 : IntKind.i64.wrap ((j2 : Int) + 1) = (j2 : Int) + 1 := by rw [IntKind.wrap_i64]; omega
                              obtain ⟨D, hD1, hD2⟩ := HO4.out.back
                              have HD := Lib.hid (ownsMap_keep hD1 ((Mod.refl (fun _ => False) wr).drew) (fun h => h))
                              have HP := Lib.hid (hput D hD2)
                              have HGN := Lib.hid hgn
                              have ij0 : (0 : Int) ≤ (j2 : Int) := by omega
                              clear hka hkb hk hc' hput hD1 hD2 hcell htk hse hGB hgn ck
                              go_wp2_with fail
                              refine region_m (by kernel_rfl) ?_
                              simp only [List.length_cons, List.length_nil, List.replicate]
                              refine take0 (v := ?v145) (oi := ?o145) 0 ?hi145 (by kernel_rfl) (by kernel_rfl) (by kernel_rfl) ?hq145 ?hy145 ?_
                              case hi145 => (simp only [List.getElem?_toArray, List.getElem?_cons_zero, List.getElem?_cons_succ]; rfl)
                              case hq145 => exact fun _ _ _ h => h
                              case hy145 => first | (refine ry_not ?_; rfl) | (refine ry_run (by rfl) (fun w' hw' => ?_); go_simp; try rfl)
                              simp only [Act.put, List.setIfInBounds_toArray, List.set_cons_zero, List.set_cons_succ]
                              refine take0 (v := ?v146) (oi := ?o146) 1 ?hi146 (by kernel_rfl) (by kernel_rfl) (by kernel_rfl) ?hq146 ?hy146 ?_
                              case hi146 => (simp only [List.getElem?_toArray, List.getElem?_cons_zero, List.getElem?_cons_succ]; rfl)
                              case hq146 => exact fun _ _ _ h => h
                              case hy146 => first | (refine ry_not ?_; rfl) | (refine ry_run (by rfl) (fun w' hw' => ?_); go_simp; try rfl)
                              simp only [Act.put, List.setIfInBounds_toArray, List.set_cons_zero, List.set_cons_succ]
                              refine take0 (v := ?v147) (oi := ?o147) 2 ?hi147 (by kernel_rfl) (by kernel_rfl) (by kernel_rfl) ?hq147 ?hy147 ?_
                              case hi147 => (simp only [List.getElem?_toArray, List.getElem?_cons_zero, List.getElem?_cons_succ]; rfl)
                              case hq147 => exact fun _ _ _ h => h
                              case hy147 => first | (refine ry_not ?_; rfl) | (refine ry_run (by rfl) (fun w' hw' => ?_); go_simp; try rfl)
                              simp only [Act.put, List.setIfInBounds_toArray, List.set_cons_zero, List.set_cons_succ]
                              refine take0 (v := ?v148) (oi := ?o148) 3 ?hi148 (by kernel_rfl) (by kernel_rfl) (by kernel_rfl) ?hq148 ?hy148 ?_
                              case hi148 => (simp only [List.getElem?_toArray, List.getElem?_cons_zero, List.getElem?_cons_succ]; rfl)
                              case hq148 => exact fun _ _ _ h => h
                              case hy148 => first | (refine ry_not ?_; rfl) | (refine ry_run (by rfl) (fun w' hw' => ?_); go_simp; try rfl)
                              simp only [Act.put, List.setIfInBounds_toArray, List.set_cons_zero, List.set_cons_succ]
                              refine take0 (v := ?v149) (oi := ?o149) 4 ?hi149 (by kernel_rfl) (by kernel_rfl) (by kernel_rfl) ?hq149 ?hy149 ?_
                              case hi149 => (simp only [List.getElem?_toArray, List.getElem?_cons_zero, List.getElem?_cons_succ]; rfl)
                              case hq149 => exact fun _ _ _ h => h
                              case hy149 => first | (refine ry_not ?_; rfl) | (refine ry_run (by rfl) (fun w' hw' => ?_); go_simp; try rfl)
                              simp only [Act.put, List.setIfInBounds_toArray, List.set_cons_zero, List.set_cons_succ]
                              refine take0 (v := ?v150) (oi := ?o150) 5 ?hi150 (by kernel_rfl) (by kernel_rfl) (by kernel_rfl) ?hq150 ?hy150 ?_
                              case hi150 => (simp only [List.getElem?_toArray, List.getElem?_cons_zero, List.getElem?_cons_succ]; rfl)
                              case hq150 => exact fun _ _ _ h => h
                              case hy150 => first | (refine ry_not ?_; rfl) | (refine ry_run (by rfl) (fun w' hw' => ?_); go_simp; try rfl)
                              simp only [Act.put, List.setIfInBounds_toArray, List.set_cons_zero, List.set_cons_succ]
                              refine take0 (v := ?v151) (oi := ?o151) 6 ?hi151 (by kernel_rfl) (by kernel_rfl) (by kernel_rfl) ?hq151 ?hy151 ?_
                              case hi151 => (simp only [List.getElem?_toArray, List.getElem?_cons_zero, List.getElem?_cons_succ]; rfl)
                              case hq151 => exact fun _ _ _ h => h
                              case hy151 => first | (refine ry_not ?_; rfl) | (refine ry_run (by rfl) (fun w' hw' => ?_); go_simp; try rfl)
                              simp only [Act.put, List.setIfInBounds_toArray, List.set_cons_zero, List.set_cons_succ]
                              refine take0 (v := ?v152) (oi := ?o152) 7 ?hi152 (by kernel_rfl) (by kernel_rfl) (by kernel_rfl) ?hq152 ?hy152 ?_
                              case hi152 => (simp only [List.getElem?_toArray, List.getElem?_cons_zero, List.getElem?_cons_succ]; rfl)
                              case hq152 => exact fun _ _ _ h => h
                              case hy152 => first | (refine ry_not ?_; rfl) | (refine ry_run (by rfl) (fun w' hw' => ?_); go_simp; try rfl)
                              simp only [Act.put, List.setIfInBounds_toArray, List.set_cons_zero, List.set_cons_succ]
                              refine take0 (v := ?v153) (oi := ?o153) 8 ?hi153 (by kernel_rfl) (by kernel_rfl) (by kernel_rfl) ?hq153 ?hy153 ?_
                              case hi153 => (simp only [List.getElem?_toArray, List.getElem?_cons_zero, List.getElem?_cons_succ]; rfl)
                              case hq153 => exact fun _ _ _ h => h
                              case hy153 => first | (refine ry_not ?_; rfl) | (refine ry_run (by rfl) (fun w' hw' => ?_); go_simp; try rfl)
                              simp only [Act.put, List.setIfInBounds_toArray, List.set_cons_zero, List.set_cons_succ]
                              refine take0 (v := ?v154) (oi := ?o154) 9 ?hi154 (by kernel_rfl) (by kernel_rfl) (by kernel_rfl) ?hq154 ?hy154 ?_
                              case hi154 => (simp only [List.getElem?_toArray, List.getElem?_cons_zero, List.getElem?_cons_succ]; rfl)
                              case hq154 => exact fun _ _ _ h => h
                              case hy154 => first | (refine ry_not ?_; rfl) | (refine ry_run (by rfl) (fun w' hw' => ?_); go_simp; try rfl)
                              simp only [Act.put, List.setIfInBounds_toArray, List.set_cons_zero, List.set_cons_succ]
                              refine take0 (v := ?v155) (oi := ?o155) 10 ?hi155 (by kernel_rfl) (by kernel_rfl) (by kernel_rfl) ?hq155 ?hy155 ?_
                              case hi155 => (simp only [List.getElem?_toArray, List.getElem?_cons_zero, List.getElem?_cons_succ]; rfl)
                              case hq155 => exact fun _ _ _ h => h
                              case hy155 => first | (refine ry_not ?_; rfl) | (refine ry_run (by rfl) (fun w' hw' => ?_); go_simp; try rfl)
                              simp only [Act.put, List.setIfInBounds_toArray, List.set_cons_zero, List.set_cons_succ]
                              refine take0 (v := ?v156) (oi := ?o156) 11 ?hi156 (by kernel_rfl) (by kernel_rfl) (by kernel_rfl) ?hq156 ?hy156 ?_
                              case hi156 => (simp only [List.getElem?_toArray, List.getElem?_cons_zero, List.getElem?_cons_succ]; rfl)
                              case hq156 => exact fun _ _ _ h => h
                              case hy156 => first | (refine ry_not ?_; rfl) | (refine ry_run (by rfl) (fun w' hw' => ?_); go_simp; try rfl)
                              simp only [Act.put, List.setIfInBounds_toArray, List.set_cons_zero, List.set_cons_succ]
                              refine take0 (v := ?v157) (oi := ?o157) 12 ?hi157 (by kernel_rfl) (by kernel_rfl) (by kernel_rfl) ?hq157 ?hy157 ?_
                              case hi157 => (simp only [List.getElem?_toArray, List.getElem?_cons_zero, List.getElem?_cons_succ]; rfl)
                              case hq157 => exact fun _ _ _ h => h
                              case hy157 => first | (refine ry_not ?_; rfl) | (refine ry_run (by rfl) (fun w' hw' => ?_); go_simp; try rfl)
                              simp only [Act.put, List.setIfInBounds_toArray, List.set_cons_zero, List.set_cons_succ]
                              refine take0 (v := ?v158) (oi := ?o158) 13 ?hi158 (by kernel_rfl) (by kernel_rfl) (by kernel_rfl) ?hq158 ?hy158 ?_
                              case hi158 => (simp only [List.getElem?_toArray, List.getElem?_cons_zero, List.getElem?_cons_succ]; rfl)
                              case hq158 => exact fun _ _ _ h => h
                              case hy158 => first | (refine ry_not ?_; rfl) | (refine ry_run (by rfl) (fun w' hw' => ?_); go_simp; try rfl)
                              simp only [Act.put, List.setIfInBounds_toArray, List.set_cons_zero, List.set_cons_succ]
                              refine take0 (v := ?v159) (oi := ?o159) 14 ?hi159 (by kernel_rfl) (by kernel_rfl) (by kernel_rfl) ?hq159 ?hy159 ?_
                              case hi159 => (simp only [List.getElem?_toArray, List.getElem?_cons_zero, List.getElem?_cons_succ]; rfl)
                              case hq159 => exact fun _ _ _ h => h
                              case hy159 => first | (refine ry_not ?_; rfl) | (refine ry_run (by rfl) (fun w' hw' => ?_); go_simp; try rfl)
                              simp only [Act.put, List.setIfInBounds_toArray, List.set_cons_zero, List.set_cons_succ]
                              refine take0 (v := ?v160) (oi := ?o160) 15 ?hi160 (by kernel_rfl) (by kernel_rfl) (by kernel_rfl) ?hq160 ?hy160 ?_
                              case hi160 => (simp only [List.getElem?_toArray, List.getElem?_cons_zero, List.getElem?_cons_succ]; rfl)
                              case hq160 => exact fun _ _ _ h => h
                              case hy160 => first | (refine ry_not ?_; rfl) | (refine ry_run (by rfl) (fun w' hw' => ?_); go_simp; try rfl)
                              simp only [Act.put, List.setIfInBounds_toArray, List.set_cons_zero, List.set_cons_succ]
                              refine take0 (v := ?v161) (oi := ?o161) 16 ?hi161 (by kernel_rfl) (by kernel_rfl) (by kernel_rfl) ?hq161 ?hy161 ?_
                              case hi161 => (simp only [List.getElem?_toArray, List.getElem?_cons_zero, List.getElem?_cons_succ]; rfl)
                              case hq161 => exact fun _ _ _ h => h
                              case hy161 => first | (refine ry_not ?_; rfl) | (refine ry_run (by rfl) (fun w' hw' => ?_); go_simp; try rfl)
                              simp only [Act.put, List.setIfInBounds_toArray, List.set_cons_zero, List.set_cons_succ]
                              refine step0 (o := ?o162) 17 (by kernel_rfl) ?hi162 ?hw162 ?_
                              case hi162 => (simp only [List.getElem?_toArray, List.getElem?_cons_zero, List.getElem?_cons_succ]; rfl)
                              case hw162 => rfl
                              refine upd_step (.tmp 156) (.tmp 170) (.tmp 172) 41 rfl 3 3 (int_keyed Try.underlying3) Try.underlying41 (plainElem Try.prog 3) bk GB.length D rfl HD.out (by unfold maxLen; omega) (.int .i64 (ka * 256 + kb)) (.int .i64 ((c : Int) + 1)) (.int .i64 (ka * 256 + kb)) rfl rfl (keyOf_int_mk Try.underlying3 (wf_key (by omega))) (.lit (.int .i64 ((c : Int) + 1))) [] (plainElem_int Try.underlying3 (WalkArith.wf_i64 (by omega))) ?_
                              intro w8 hown8 hgrow8
                              refine ⟨.inr (by kernel_rfl), ?_⟩
                              simp only [Act.put, List.setIfInBounds_toArray, List.set_cons_zero, List.set_cons_succ]
                              refine wpAnyM_done (by kernel_rfl) ?_
                              clear x0 lk i0 i1
                              have hm8 : Mod (fun k => k = bk) wr w8 := Mod.grown ((Mod.refl (fun k => k = bk) wr).drew) hgrow8 (fun k hk _ => by injection hk with hk; exact hk.symm)
                              have hO8 := HO4.out.upd hm8 ⟨_, by rw [List.length_append]; exact hown8, HP.out⟩
                              have hF8 : Frames w8 (some ⟨gf, og, none⟩) cg OUT := HFR4.out.keep hm8 (fun a ha e => by
                                obtain ⟨cur, fr, hh⟩ := HFR4.out.row a ha
                                exact HO4.out.back.ne hh e.symm)
                              rw [← HGN.out] at hO8
                              have HO8 := Lib.hid hO8
                              have HF8 := Lib.hid hF8
                              clear hm8 hO8 hF8 hown8 hgrow8
                              go_wp2_with fail
                              go_roundw
                              case rel => exact ⟨j2 + 1, by go_num, by omega, HO8, HF8⟩
                              case measure => simp [intOf]; omega
                            · have ij : ¬ (j2 : Int) < (OUT.length : Int) := by omega
                              have hje : j2 = OUT.length := by omega
                              subst hje
                              have HEND := HO4
                              rw [List.take_length] at HEND
                              clear HO4 HFR4
                              have hw15 : IntKind.i64.wrap ((j4 : Int) + 1) = (j4 : Int) + 1 := by rw [IntKind.wrap_i64]; omega
                              go_wp2_with fail
                              go_roundw
                              case rel => exact ⟨j4 + 1, by go_num, by omega, Lib.hid ⟨_, _, _, _, _, _, HEND.out, fun _ => ⟨rfl, rfl⟩⟩⟩
                              case measure => simp [intOf]; omega
                        · have i1 : ¬ (j4 : Int) < 3 := by omega
                          obtain ⟨wty, wby, sty, goty, py, Fy, hOY, hly⟩ := HE4.out
                          obtain ⟨rfl, rfl⟩ := hly (by omega)
                          obtain ⟨e1, e2, e3⟩ := hOY.fit.ends
                          have HE5 := Lib.hid (And.intro e1 (And.intro e2 e3))
                          have HO5 := Lib.hid hOY
                          clear hOY hly HE4 HE e1 e2 e3
                          go_wp2_with fail
                          clear i1
                          go_loopw [22, 23] (fun gv j wr => ∃ i6 : Nat, gv = .int .i64 (gone goty i6 : Nat) ∧ j = .int .i64 i6 ∧ i6 ≤ k2 ∧ Hid (OnAt bn bm bq bk L0 (ksN k2 ++ eK j4) (k2 + j4) [] [] [] sty goty goty py Fy w wr)) (fun _ j _ => k2 - (intOf j).toNat)
                          case atStart => exact ⟨0, by go_num, by go_num, by omega, HO5⟩
                          case round =>
                            obtain ⟨i6, rfl, rfl, hi6, HO6⟩ := hrel
                            by_cases hik : i6 < k2
                            · have i1 : (i6 : Int) < (k2 : Int) := by omega
                              have g1 := HE5.out.1 (i6 : Int)
                              have g2 := HE5.out.2.1 (i6 : Int)
                              have x0 := HO6.out.both.srv.1.box.cell (o := 0) rfl
                              have lk1 := HO6.out.both.srv.1.map.look (i6 : Int) (by omega)
                              have lk2 := HO6.out.back.look (i6 : Int) (by omega)
                              have j1 : ¬ (2 : Int) < (cnt sty (i6 : Int) : Int) := by omega
                              have j2 : ¬ (4 : Int) < (cnt goty (i6 : Int) : Int) := by omega
                              have hgs := gone_succ goty i6
                              have hgl := gone_le goty i6
                              have hw1 : IntKind.i64.wrap ((i6 : Int) + 1) = (i6 : Int) + 1 := by rw [IntKind.wrap_i64]; omega
                              have hw2 : IntKind.i64.wrap ((gone goty i6 : Int) + 1) = (gone goty i6 : Int) + 1 := by rw [IntKind.wrap_i64]; omega
                              by_cases hz0 : cnt goty (i6 : Int) = 0
                              · have b0 : ((cnt goty (i6 : Int) : Int) == 0) = true := by rw [hz0]; rfl
                                rw [if_pos hz0] at hgs
                                clear g1 g2
                                go_wp2_with fail
                                go_roundw
                                case rel => exact ⟨i6 + 1, by rw [hgs]; go_num, by go_num, by omega, HO6⟩
                                case measure => simp [intOf]; omega
                              · have b0 : ((cnt goty (i6 : Int) : Int) == 0) = false := by simpa using hz0
                                rw [if_neg hz0] at hgs
                                clear g1 g2
                                go_wp2_with fail
                                go_roundw
                                case rel => exact ⟨i6 + 1, by rw [hgs]; go_num, by go_num, by omega, HO6⟩
                                case measure => simp [intOf]; omega
                            · have i1 : ¬ (i6 : Int) < (k2 : Int) := by omega
                              obtain rfl : i6 = k2 := by omega
                              have g3 : (gone goty i6 : Int) ≤ (L0 : Int) := by have h := HE5.out.2.2; unfold gone; omega
                              have HMW := Lib.hid HO6.out.mod
                              clear HO6 HE5 HO5
                              go_wp2_with fail
                              go_ret
                              exact ⟨rfl, HMW.out.below (fun _ _ h => h)⟩
        · have i1 : ¬ (k : Int) < (l.length : Int) := by omega
          as_aux_lemma =>
            obtain ⟨A3, c3, rfl, hF3, hb3⟩ := own_fates HO.out
            have hm3 := Mod.trans HM1.out HM.out (fun _ _ h => h)
            have hz3 := HM.out.size
            have hz1 := HM1.out.size
            have HF3 := Lib.hid hF3
            have HM3 := Lib.hid hm3
            have hml : loses fl ≤ fl.length := loses_le fl
            clear hF3 hb3 hm3 HO HM
            go_wp2_with fail
            clear i1
            try clear i2
            have HOW := Lib.hid (Int.le_refl 0)
            have hm4 : Mod (fun _ => False) wr (((wr.alloc (.map #[] 0)).alloc (.cells #[.map (some wr.heap.size)] 41)).alloc (.map #[] 0)) := (((Mod.refl _ _).alloc _).alloc _).alloc _
            have hbx : Has (((wr.alloc (.map #[] 0)).alloc (.cells #[.map (some wr.heap.size)] 41)).alloc (.map #[] 0)) (wr.heap.size + 1) [.map (some wr.heap.size)] 41 := (Has.lit (by simp)).alloc _
            have hmp : MpAt wr.heap.size [] (((wr.alloc (.map #[] 0)).alloc (.cells #[.map (some wr.heap.size)] 41)).alloc (.map #[] 0)) := MpAt.keep ⟨.map [], World.ownsMap_made (H := Unit) wr Try.prog 3 (plainElem Try.prog 3), Counts.nil⟩ (((Mod.refl (fun _ => False) _).alloc _).alloc _) (fun h => h)
            have hbk : MpAt (wr.heap.size + 2) [] (((wr.alloc (.map #[] 0)).alloc (.cells #[.map (some wr.heap.size)] 41)).alloc (.map #[] 0)) := ⟨.map [], by
              have h := World.ownsMap_made (H := Unit) ((wr.alloc (.map #[] 0)).alloc (.cells #[.map (some wr.heap.size)] 41)) Try.prog 3 (plainElem Try.prog 3)
              simpa using h, Counts.nil⟩
            have HX4 := Lib.hid (And.intro hm4 (And.intro hbx (And.intro hmp hbk)))
            clear hm4 hbx hmp hbk
            refine (new_calls 18 #[.pointer (some ⟨wr.heap.size + 1, 0, none⟩)] A3 c3 fl _ (HF3.out.cells.keep HX4.out.1 (fun _ _ h => h)) HF3.out.cap HF3.out.max HG.out.2.2 (by omega)).mono ?_
            rintro e w4 ⟨p, rfl, hN4, hfp4, hm5⟩
            obtain ⟨hm4, hbx, hmp, hbk⟩ := HX4.out
            have hrel : OnRel p.bn (wr.heap.size + 1) wr.heap.size (wr.heap.size + 2) (loses fl) (ksN 0) 0 60 w w4 :=
              ⟨fl, [], [], [], [], p, fun k => k = wr.heap.size + 1 ∨ k = wr.heap.size, ⟨⟨hN4, ⟨⟨hbx.keep hm5 (fun h => h), hmp.keep hm5 (fun h => h), by omega⟩, rfl⟩, fun k hk h => by
                  have := hfp4 k hk
                  simp only [size_alloc] at this
                  omega⟩, rfl, hbk.keep hm5 (fun h => h), ⟨fun h => by have := hfp4 _ h; simp only [size_alloc] at this; omega, by omega⟩, Fit.nil fl HG.out.2.1 HG.out.1, fun i hi => by have := hfp4 i hi; simp only [size_alloc] at this; omega, by omega, Mod.trans HM3.out (Mod.trans hm4 hm5 (fun _ _ h => h)) (fun _ _ h => h)⟩, by omega⟩
            have HR := Lib.hid hrel
            have hbx3 : wr.heap.size + 2 < w4.heap.size := (hbk.keep hm5 (fun h => h)).lt
            clear hrel hN4 hfp4 hm4 hm5 hbx hmp hbk HF3 HX4 HM3 HG HOW hml
            go_wp2_with fail
            generalize p.bn = bn at *
            generalize loses fl = L0 at *
            try simp only [Nat.add_assoc, Nat.reduceAdd]
            generalize hbm : wr.heap.size + 1 = bm at *
            generalize hbk : wr.heap.size + 2 = bk at *
            generalize hbq : wr.heap.size = bq at *
            go_loopw [15, 16] (fun al i wr => ∃ k : Nat, al = .int .i64 k ∧ i = .int .i64 k ∧ k ≤ 60 ∧ Hid (OnRel bn bm bq bk L0 (ksN k) k 60 w wr)) (fun _ i _ => 60 - (intOf i).toNat)
            case atStart => exact ⟨0, by go_num, by go_num, by omega, HR⟩
            case round =>
              obtain ⟨k2, rfl, rfl, hk2, HR2⟩ := hrel
              by_cases hkM : k2 < N % 50
              · have i1 : (k2 : Int) < ((N % 50 : Nat) : Int) := by omega
                as_aux_lemma =>
                  have hk60 : k2 < 60 := by
                    first | omega | (obtain ⟨lz, wt, wb, st, got, pz, Fz, hON, hln⟩ := HR2.out; omega)
                  clear i1
                  try clear i2
                  have hq0 : (k2 : Int).tdiv 256 = 0 := by rw [Int.tdiv_eq_ediv_of_nonneg (by omega)]; omega
                  have hq1 : IntKind.u8.wrap (k2 : Int) = (k2 : Int) := by simp [IntKind.wrap, IntKind.bits, IntKind.signed]; omega
                  have hcv := cv_two 0 (UInt8.ofNat k2) wr
                  rw [ofNat_toNat k2 (by omega), show (((0 : UInt8).toNat : Nat) : Int) = 0 from rfl] at hcv
                  change _ = Result.ok (Value.string (kB k2)) _ at hcv
                  obtain ⟨ly, wty, wby, sty, goty, py, Fy, hOY, hly⟩ := HR2.out
                  have hA := (hOY.keep ((Mod.refl (fun _ => False) wr).alloc (.cells #[.int .u8 0, .int .u8 (k2 : Int)] 5))).ask (by omega) (kB k2) (by rw [kB_key k2 (by omega)]; exact fun h => by have := ksN_mem h; omega) rfl
                  rw [kB_key k2 (by omega), ← ksN_succ] at hA
                  have HA := Lib.hid hA
                  have HLY := Lib.hid hly
                  clear hA hOY hly HR2
                  try clear HON
                  go_wp2_with fail
                  refine HA.out.mono ?_
                  rintro e w5 ⟨Ag, cg, OUT, l3, wt3, wb3, st3, p3, F3, rfl, hfr, htw, hol, hO3, hl3, -⟩
                  have HFR := Lib.hid hfr
                  have HTW := Lib.hid htw
                  have HO3 := Lib.hid hO3
                  have hl60 : l3.length + (k2 + 1) ≤ 60 := by have := HLY.out; omega
                  clear hfr htw hO3 hl3 hcv HA HLY
                  go_wp2_with fail
                  go_loopw [18] (fun j wr => ∃ j2 : Nat, j = .int .i64 j2 ∧ j2 ≤ OUT.length ∧ Hid (OnAt bn bm bq bk L0 (ksN (k2 + 1)) (k2 + 1) l3 wt3 wb3 st3 (goty ++ OUT) (goty ++ OUT.take j2) p3 F3 w wr) ∧ Hid (Frames wr Ag cg OUT)) (fun j _ => OUT.length - (intOf j).toNat)
                  case atStart => exact ⟨0, by go_num, by omega, by rw [List.take_zero, List.append_nil]; exact HO3, HFR⟩
                  case round =>
                    obtain ⟨j2, rfl, hj2, HO4, HFR4⟩ := hrel
                    by_cases hjl : j2 < OUT.length
                    · have ij : (j2 : Int) < (OUT.length : Int) := by omega
                      have hcs := HFR4.out.cells
                      rcases hcs with hcl | ⟨gf, og, rfl, hcell⟩
                      · have hz0 := sv_len OUT; rw [hcl] at hz0; simp at hz0; omega
                      have ck := hcell j2 _ (sv_get OUT j2 hjl)
                      have hgf : gf < wr.heap.size := World.block_lt_of_cell? wr _ ck
                      have hs := HTW.out OUT[j2] (List.getElem_mem hjl)
                      have htk : OUT.take (j2 + 1) = OUT.take j2 ++ [OUT[j2]] := List.take_succ_eq_append_getElem hjl
                      obtain ⟨s, hse⟩ : ∃ s, OUT[j2] = s := ⟨_, rfl⟩
                      rw [hse] at ck hs htk
                      have x0 := fun (w' : World) (m : Mod0 wr.drew w') => ((Mod.of_drew_l m).cell (p := ⟨gf, og + j2, none⟩) hgf (fun h => h)).trans ck
                      have lk := fun (w' : World) (m : Mod0 wr.drew w') => (HO4.out.back.keep (Mod.of_drew_l m) (fun h => h)).look (keyF s) (by have := key_le s; omega)
                      have i0 : ∀ w' : World, (Instr.index 9 (.string s) (.int .i64 0)).run Try.prog w' = _ := fun w' => idx_at s 0 (by omega) w'
                      have i1 : ∀ w' : World, (Instr.index 9 (.string s) (.int .i64 1)).run Try.prog w' = _ := fun w' => idx_at s 1 (by omega) w'
                      have hkle := key_le s
                      have hlg : (goty ++ OUT.take j2).length ≤ 100000 := by
                        have h1 := HO4.out.fit.lb
                        have h2 := HO4.out.fit.lt
                        simp only [List.length_append, List.length_take] at h1 ⊢
                        omega
                      obtain ⟨GB, hGB⟩ : ∃ GB, goty ++ OUT.take j2 = GB := ⟨_, rfl⟩
                      have hgn : goty ++ OUT.take (j2 + 1) = GB ++ [s] := by rw [htk, ← List.append_assoc, hGB]
                      rw [hGB] at HO4 hlg
                      simp only [hGB] at lk
                      have hcl := cnt_le GB (keyF s)
                      obtain ⟨ka, hka⟩ : ∃ ka : Int, ((s.data.toList.getD 0 0).toNat : Int) = ka := ⟨_, rfl⟩
                      obtain ⟨kb, hkb⟩ : ∃ kb : Int, ((s.data.toList.getD 1 0).toNat : Int) = kb := ⟨_, rfl⟩
                      have hk : keyF s = ka * 256 + kb := by unfold keyF; rw [hka, hkb]
                      have hab : 0 ≤ ka ∧ ka ≤ 255 ∧ 0 ≤ kb ∧ kb ≤ 255 := by
                        have h1 := (s.data.toList.getD 0 0).toNat_lt
                        have h2 := (s.data.toList.getD 1 0).toNat_lt
                        omega
                      rw [hka] at i0
                      rw [hkb] at i1
                      have hput := fun D (hD : Counts D GB) => hD.put s
                      obtain ⟨c, hc'⟩ : ∃ c : Nat, cnt GB (keyF s) = c := ⟨_, rfl⟩
                      simp only [hc'] at lk hcl hput
                      rw [hk] at lk hkle
                      simp only [hk] at hput
                      have hw1 : IntKind.i64.wrap ka = ka := by rw [IntKind.wrap_i64]; omega
                      have hw2 : IntKind.i64.wrap kb = kb := by rw [IntKind.wrap_i64]; omega
                      have hw3 : IntKind.i64.wrap (ka * 256) = ka * 256 := by rw [IntKind.wrap_i64]; omega
                      have hw4 : IntKind.i64.wrap (ka * 256 + kb) = ka * 256 + kb := by rw [IntKind.wrap_i64]; omega
                      have hw5 : IntKind.i64.wrap ((c : Int) + 1) = (c : Int) + 1 := by rw [IntKind.wrap_i64]; omega
                      have hw6 : IntKind.i64.wrap ((j2 : Int) + 1) = (j2 : Int) + 1 := by rw [IntKind.wrap_i64]; omega
                      obtain ⟨D, hD1, hD2⟩ := HO4.out.back
                      have HD := Lib.hid (ownsMap_keep hD1 ((Mod.refl (fun _ => False) wr).drew) (fun h => h))
                      have HP := Lib.hid (hput D hD2)
                      have HGN := Lib.hid hgn
                      have ij0 : (0 : Int) ≤ (j2 : Int) := by omega
                      clear hka hkb hk hc' hput hD1 hD2 hcell htk hse hGB hgn ck
                      go_wp2_with fail
                      refine region_m (by kernel_rfl) ?_
                      simp only [List.length_cons, List.length_nil, List.replicate]
                      refine take0 (v := ?v163) (oi := ?o163) 0 ?hi163 (by kernel_rfl) (by kernel_rfl) (by kernel_rfl) ?hq163 ?hy163 ?_
                      case hi163 => (simp only [List.getElem?_toArray, List.getElem?_cons_zero, List.getElem?_cons_succ]; rfl)
                      case hq163 => exact fun _ _ _ h => h
                      case hy163 => first | (refine ry_not ?_; rfl) | (refine ry_run (by rfl) (fun w' hw' => ?_); go_simp; try rfl)
                      simp only [Act.put, List.setIfInBounds_toArray, List.set_cons_zero, List.set_cons_succ]
                      refine take0 (v := ?v164) (oi := ?o164) 1 ?hi164 (by kernel_rfl) (by kernel_rfl) (by kernel_rfl) ?hq164 ?hy164 ?_
                      case hi164 => (simp only [List.getElem?_toArray, List.getElem?_cons_zero, List.getElem?_cons_succ]; rfl)
                      case hq164 => exact fun _ _ _ h => h
                      case hy164 => first | (refine ry_not ?_; rfl) | (refine ry_run (by rfl) (fun w' hw' => ?_); go_simp; try rfl)
                      simp only [Act.put, List.setIfInBounds_toArray, List.set_cons_zero, List.set_cons_succ]
                      refine take0 (v := ?v165) (oi := ?o165) 2 ?hi165 (by kernel_rfl) (by kernel_rfl) (by kernel_rfl) ?hq165 ?hy165 ?_
                      case hi165 => (simp only [List.getElem?_toArray, List.getElem?_cons_zero, List.getElem?_cons_succ]; rfl)
                      case hq165 => exact fun _ _ _ h => h
                      case hy165 => first | (refine ry_not ?_; rfl) | (refine ry_run (by rfl) (fun w' hw' => ?_); go_simp; try rfl)
                      simp only [Act.put, List.setIfInBounds_toArray, List.set_cons_zero, List.set_cons_succ]
                      refine take0 (v := ?v166) (oi := ?o166) 3 ?hi166 (by kernel_rfl) (by kernel_rfl) (by kernel_rfl) ?hq166 ?hy166 ?_
                      case hi166 => (simp only [List.getElem?_toArray, List.getElem?_cons_zero, List.getElem?_cons_succ]; rfl)
                      case hq166 => exact fun _ _ _ h => h
                      case hy166 => first | (refine ry_not ?_; rfl) | (refine ry_run (by rfl) (fun w' hw' => ?_); go_simp; try rfl)
                      simp only [Act.put, List.setIfInBounds_toArray, List.set_cons_zero, List.set_cons_succ]
                      refine take0 (v := ?v167) (oi := ?o167) 4 ?hi167 (by kernel_rfl) (by kernel_rfl) (by kernel_rfl) ?hq167 ?hy167 ?_
                      case hi167 => (simp only [List.getElem?_toArray, List.getElem?_cons_zero, List.getElem?_cons_succ]; rfl)
                      case hq167 => exact fun _ _ _ h => h
                      case hy167 => first | (refine ry_not ?_; rfl) | (refine ry_run (by rfl) (fun w' hw' => ?_); go_simp; try rfl)
                      simp only [Act.put, List.setIfInBounds_toArray, List.set_cons_zero, List.set_cons_succ]
                      refine take0 (v := ?v168) (oi := ?o168) 5 ?hi168 (by kernel_rfl) (by kernel_rfl) (by kernel_rfl) ?hq168 ?hy168 ?_
                      case hi168 => (simp only [List.getElem?_toArray, List.getElem?_cons_zero, List.getElem?_cons_succ]; rfl)
                      case hq168 => exact fun _ _ _ h => h
                      case hy168 => first | (refine ry_not ?_; rfl) | (refine ry_run (by rfl) (fun w' hw' => ?_); go_simp; try rfl)
                      simp only [Act.put, List.setIfInBounds_toArray, List.set_cons_zero, List.set_cons_succ]
                      refine take0 (v := ?v169) (oi := ?o169) 6 ?hi169 (by kernel_rfl) (by kernel_rfl) (by kernel_rfl) ?hq169 ?hy169 ?_
                      case hi169 => (simp only [List.getElem?_toArray, List.getElem?_cons_zero, List.getElem?_cons_succ]; rfl)
                      case hq169 => exact fun _ _ _ h => h
                      case hy169 => first | (refine ry_not ?_; rfl) | (refine ry_run (by rfl) (fun w' hw' => ?_); go_simp; try rfl)
                      simp only [Act.put, List.setIfInBounds_toArray, List.set_cons_zero, List.set_cons_succ]
                      refine take0 (v := ?v170) (oi := ?o170) 7 ?hi170 (by kernel_rfl) (by kernel_rfl) (by kernel_rfl) ?hq170 ?hy170 ?_
                      case hi170 => (simp only [List.getElem?_toArray, List.getElem?_cons_zero, List.getElem?_cons_succ]; rfl)
                      case hq170 => exact fun _ _ _ h => h
                      case hy170 => first | (refine ry_not ?_; rfl) | (refine ry_run (by rfl) (fun w' hw' => ?_); go_simp; try rfl)
                      simp only [Act.put, List.setIfInBounds_toArray, List.set_cons_zero, List.set_cons_succ]
                      refine take0 (v := ?v171) (oi := ?o171) 8 ?hi171 (by kernel_rfl) (by kernel_rfl) (by kernel_rfl) ?hq171 ?hy171 ?_
                      case hi171 => (simp only [List.getElem?_toArray, List.getElem?_cons_zero, List.getElem?_cons_succ]; rfl)
                      case hq171 => exact fun _ _ _ h => h
                      case hy171 => first | (refine ry_not ?_; rfl) | (refine ry_run (by rfl) (fun w' hw' => ?_); go_simp; try rfl)
                      simp only [Act.put, List.setIfInBounds_toArray, List.set_cons_zero, List.set_cons_succ]
                      refine take0 (v := ?v172) (oi := ?o172) 9 ?hi172 (by kernel_rfl) (by kernel_rfl) (by kernel_rfl) ?hq172 ?hy172 ?_
                      case hi172 => (simp only [List.getElem?_toArray, List.getElem?_cons_zero, List.getElem?_cons_succ]; rfl)
                      case hq172 => exact fun _ _ _ h => h
                      case hy172 => first | (refine ry_not ?_; rfl) | (refine ry_run (by rfl) (fun w' hw' => ?_); go_simp; try rfl)
                      simp only [Act.put, List.setIfInBounds_toArray, List.set_cons_zero, List.set_cons_succ]
                      refine take0 (v := ?v173) (oi := ?o173) 10 ?hi173 (by kernel_rfl) (by kernel_rfl) (by kernel_rfl) ?hq173 ?hy173 ?_
                      case hi173 => (simp only [List.getElem?_toArray, List.getElem?_cons_zero, List.getElem?_cons_succ]; rfl)
                      case hq173 => exact fun _ _ _ h => h
                      case hy173 => first | (refine ry_not ?_; rfl) | (refine ry_run (by rfl) (fun w' hw' => ?_); go_simp; try rfl)
                      simp only [Act.put, List.setIfInBounds_toArray, List.set_cons_zero, List.set_cons_succ]
                      refine take0 (v := ?v174) (oi := ?o174) 11 ?hi174 (by kernel_rfl) (by kernel_rfl) (by kernel_rfl) ?hq174 ?hy174 ?_
                      case hi174 => (simp only [List.getElem?_toArray, List.getElem?_cons_zero, List.getElem?_cons_succ]; rfl)
                      case hq174 => exact fun _ _ _ h => h
                      case hy174 => first | (refine ry_not ?_; rfl) | (refine ry_run (by rfl) (fun w' hw' => ?_); go_simp; try rfl)
                      simp only [Act.put, List.setIfInBounds_toArray, List.set_cons_zero, List.set_cons_succ]
                      refine take0 (v := ?v175) (oi := ?o175) 12 ?hi175 (by kernel_rfl) (by kernel_rfl) (by kernel_rfl) ?hq175 ?hy175 ?_
                      case hi175 => (simp only [List.getElem?_toArray, List.getElem?_cons_zero, List.getElem?_cons_succ]; rfl)
                      case hq175 => exact fun _ _ _ h => h
                      case hy175 => first | (refine ry_not ?_; rfl) | (refine ry_run (by rfl) (fun w' hw' => ?_); go_simp; try rfl)
                      simp only [Act.put, List.setIfInBounds_toArray, List.set_cons_zero, List.set_cons_succ]
                      refine take0 (v := ?v176) (oi := ?o176) 13 ?hi176 (by kernel_rfl) (by kernel_rfl) (by kernel_rfl) ?hq176 ?hy176 ?_
                      case hi176 => (simp only [List.getElem?_toArray, List.getElem?_cons_zero, List.getElem?_cons_succ]; rfl)
                      case hq176 => exact fun _ _ _ h => h
                      case hy176 => first | (refine ry_not ?_; rfl) | (refine ry_run (by rfl) (fun w' hw' => ?_); go_simp; try rfl)
                      simp only [Act.put, List.setIfInBounds_toArray, List.set_cons_zero, List.set_cons_succ]
                      refine take0 (v := ?v177) (oi := ?o177) 14 ?hi177 (by kernel_rfl) (by kernel_rfl) (by kernel_rfl) ?hq177 ?hy177 ?_
                      case hi177 => (simp only [List.getElem?_toArray, List.getElem?_cons_zero, List.getElem?_cons_succ]; rfl)
                      case hq177 => exact fun _ _ _ h => h
                      case hy177 => first | (refine ry_not ?_; rfl) | (refine ry_run (by rfl) (fun w' hw' => ?_); go_simp; try rfl)
                      simp only [Act.put, List.setIfInBounds_toArray, List.set_cons_zero, List.set_cons_succ]
                      refine take0 (v := ?v178) (oi := ?o178) 15 ?hi178 (by kernel_rfl) (by kernel_rfl) (by kernel_rfl) ?hq178 ?hy178 ?_
                      case hi178 => (simp only [List.getElem?_toArray, List.getElem?_cons_zero, List.getElem?_cons_succ]; rfl)
                      case hq178 => exact fun _ _ _ h => h
                      case hy178 => first | (refine ry_not ?_; rfl) | (refine ry_run (by rfl) (fun w' hw' => ?_); go_simp; try rfl)
                      simp only [Act.put, List.setIfInBounds_toArray, List.set_cons_zero, List.set_cons_succ]
                      refine take0 (v := ?v179) (oi := ?o179) 16 ?hi179 (by kernel_rfl) (by kernel_rfl) (by kernel_rfl) ?hq179 ?hy179 ?_
                      case hi179 => (simp only [List.getElem?_toArray, List.getElem?_cons_zero, List.getElem?_cons_succ]; rfl)
                      case hq179 => exact fun _ _ _ h => h
                      case hy179 => first | (refine ry_not ?_; rfl) | (refine ry_run (by rfl) (fun w' hw' => ?_); go_simp; try rfl)
                      simp only [Act.put, List.setIfInBounds_toArray, List.set_cons_zero, List.set_cons_succ]
                      refine step0 (o := ?o180) 17 (by kernel_rfl) ?hi180 ?hw180 ?_
                      case hi180 => (simp only [List.getElem?_toArray, List.getElem?_cons_zero, List.getElem?_cons_succ]; rfl)
                      case hw180 => rfl
                      refine upd_step (.tmp 121) (.tmp 135) (.tmp 137) 41 rfl 3 3 (int_keyed Try.underlying3) Try.underlying41 (plainElem Try.prog 3) bk GB.length D rfl HD.out (by unfold maxLen; omega) (.int .i64 (ka * 256 + kb)) (.int .i64 ((c : Int) + 1)) (.int .i64 (ka * 256 + kb)) rfl rfl (keyOf_int_mk Try.underlying3 (wf_key (by omega))) (.lit (.int .i64 ((c : Int) + 1))) [] (plainElem_int Try.underlying3 (WalkArith.wf_i64 (by omega))) ?_
                      intro w8 hown8 hgrow8
                      refine ⟨.inr (by kernel_rfl), ?_⟩
                      simp only [Act.put, List.setIfInBounds_toArray, List.set_cons_zero, List.set_cons_succ]
                      refine wpAnyM_done (by kernel_rfl) ?_
                      clear x0 lk i0 i1
                      have hm8 : Mod (fun k => k = bk) wr w8 := Mod.grown ((Mod.refl (fun k => k = bk) wr).drew) hgrow8 (fun k hk _ => by injection hk with hk; exact hk.symm)
                      have hO8 := HO4.out.upd hm8 ⟨_, by rw [List.length_append]; exact hown8, HP.out⟩
                      have hF8 : Frames w8 (some ⟨gf, og, none⟩) cg OUT := HFR4.out.keep hm8 (fun a ha e => by
                        obtain ⟨cur, fr, hh⟩ := HFR4.out.row a ha
                        exact HO4.out.back.ne hh e.symm)
                      rw [← HGN.out] at hO8
                      have HO8 := Lib.hid hO8
                      have HF8 := Lib.hid hF8
                      clear hm8 hO8 hF8 hown8 hgrow8
                      go_wp2_with fail
                      go_roundw
                      case rel => exact ⟨j2 + 1, by go_num, by omega, HO8, HF8⟩
                      case measure => simp [intOf]; omega
                    · have ij : ¬ (j2 : Int) < (OUT.length : Int) := by omega
                      have hje : j2 = OUT.length := by omega
                      subst hje
                      have HEND := HO4
                      rw [List.take_length] at HEND
                      clear HO4 HFR4
                      have hw15 : IntKind.i64.wrap ((k2 : Int) + 1) = (k2 : Int) + 1 := by rw [IntKind.wrap_i64]; omega
                      go_wp2_with fail
                      go_roundw
                      case rel => exact ⟨k2 + 1, by go_num, by go_num, by omega, Lib.hid ⟨_, _, _, _, _, _, _, HEND.out, hl60⟩⟩
                      case measure => simp [intOf]; omega
              · have i1 : ¬ (k2 : Int) < ((N % 50 : Nat) : Int) := by omega
                obtain ⟨lz, wt, wb, st, got, pz, Fz, hON, hln⟩ := HR2.out
                have hLF := left_calls wr hON.both.net
                rw [hON.bn] at hLF
                have HLF := Lib.hid hLF
                have HON := Lib.hid hON
                clear hLF hON
                go_wp2_with fail
                refine HLF.out.mono ?_
                rintro e w' ⟨rfl, hw⟩
                have hw := hw.symm
                subst hw
                by_cases hl0 : 0 < lz.length
                · have i2 : (0 : Int) < (lz.length : Int) := by omega
                  as_aux_lemma =>
                    have hk60 : k2 < 60 := by
                      first | omega | (obtain ⟨lz, wt, wb, st, got, pz, Fz, hON, hln⟩ := HR2.out; omega)
                    clear i1
                    try clear i2
                    have hq0 : (k2 : Int).tdiv 256 = 0 := by rw [Int.tdiv_eq_ediv_of_nonneg (by omega)]; omega
                    have hq1 : IntKind.u8.wrap (k2 : Int) = (k2 : Int) := by simp [IntKind.wrap, IntKind.bits, IntKind.signed]; omega
                    have hcv := cv_two 0 (UInt8.ofNat k2) wr
                    rw [ofNat_toNat k2 (by omega), show (((0 : UInt8).toNat : Nat) : Int) = 0 from rfl] at hcv
                    change _ = Result.ok (Value.string (kB k2)) _ at hcv
                    obtain ⟨ly, wty, wby, sty, goty, py, Fy, hOY, hly⟩ := HR2.out
                    have hA := (hOY.keep ((Mod.refl (fun _ => False) wr).alloc (.cells #[.int .u8 0, .int .u8 (k2 : Int)] 5))).ask (by omega) (kB k2) (by rw [kB_key k2 (by omega)]; exact fun h => by have := ksN_mem h; omega) rfl
                    rw [kB_key k2 (by omega), ← ksN_succ] at hA
                    have HA := Lib.hid hA
                    have HLY := Lib.hid hly
                    clear hA hOY hly HR2
                    try clear HON
                    go_wp2_with fail
                    refine HA.out.mono ?_
                    rintro e w5 ⟨Ag, cg, OUT, l3, wt3, wb3, st3, p3, F3, rfl, hfr, htw, hol, hO3, hl3, -⟩
                    have HFR := Lib.hid hfr
                    have HTW := Lib.hid htw
                    have HO3 := Lib.hid hO3
                    have hl60 : l3.length + (k2 + 1) ≤ 60 := by have := HLY.out; omega
                    clear hfr htw hO3 hl3 hcv HA HLY
                    go_wp2_with fail
                    go_loopw [18] (fun j wr => ∃ j2 : Nat, j = .int .i64 j2 ∧ j2 ≤ OUT.length ∧ Hid (OnAt bn bm bq bk L0 (ksN (k2 + 1)) (k2 + 1) l3 wt3 wb3 st3 (goty ++ OUT) (goty ++ OUT.take j2) p3 F3 w wr) ∧ Hid (Frames wr Ag cg OUT)) (fun j _ => OUT.length - (intOf j).toNat)
                    case atStart => exact ⟨0, by go_num, by omega, by rw [List.take_zero, List.append_nil]; exact HO3, HFR⟩
                    case round =>
                      obtain ⟨j2, rfl, hj2, HO4, HFR4⟩ := hrel
                      by_cases hjl : j2 < OUT.length
                      · have ij : (j2 : Int) < (OUT.length : Int) := by omega
                        have hcs := HFR4.out.cells
                        rcases hcs with hcl | ⟨gf, og, rfl, hcell⟩
                        · have hz0 := sv_len OUT; rw [hcl] at hz0; simp at hz0; omega
                        have ck := hcell j2 _ (sv_get OUT j2 hjl)
                        have hgf : gf < wr.heap.size := World.block_lt_of_cell? wr _ ck
                        have hs := HTW.out OUT[j2] (List.getElem_mem hjl)
                        have htk : OUT.take (j2 + 1) = OUT.take j2 ++ [OUT[j2]] := List.take_succ_eq_append_getElem hjl
                        obtain ⟨s, hse⟩ : ∃ s, OUT[j2] = s := ⟨_, rfl⟩
                        rw [hse] at ck hs htk
                        have x0 := fun (w' : World) (m : Mod0 wr.drew w') => ((Mod.of_drew_l m).cell (p := ⟨gf, og + j2, none⟩) hgf (fun h => h)).trans ck
                        have lk := fun (w' : World) (m : Mod0 wr.drew w') => (HO4.out.back.keep (Mod.of_drew_l m) (fun h => h)).look (keyF s) (by have := key_le s; omega)
                        have i0 : ∀ w' : World, (Instr.index 9 (.string s) (.int .i64 0)).run Try.prog w' = _ := fun w' => idx_at s 0 (by omega) w'
                        have i1 : ∀ w' : World, (Instr.index 9 (.string s) (.int .i64 1)).run Try.prog w' = _ := fun w' => idx_at s 1 (by omega) w'
                        have hkle := key_le s
                        have hlg : (goty ++ OUT.take j2).length ≤ 100000 := by
                          have h1 := HO4.out.fit.lb
                          have h2 := HO4.out.fit.lt
                          simp only [List.length_append, List.length_take] at h1 ⊢
                          omega
                        obtain ⟨GB, hGB⟩ : ∃ GB, goty ++ OUT.take j2 = GB := ⟨_, rfl⟩
                        have hgn : goty ++ OUT.take (j2 + 1) = GB ++ [s] := by rw [htk, ← List.append_assoc, hGB]
                        rw [hGB] at HO4 hlg
                        simp only [hGB] at lk
                        have hcl := cnt_le GB (keyF s)
                        obtain ⟨ka, hka⟩ : ∃ ka : Int, ((s.data.toList.getD 0 0).toNat : Int) = ka := ⟨_, rfl⟩
                        obtain ⟨kb, hkb⟩ : ∃ kb : Int, ((s.data.toList.getD 1 0).toNat : Int) = kb := ⟨_, rfl⟩
                        have hk : keyF s = ka * 256 + kb := by unfold keyF; rw [hka, hkb]
                        have hab : 0 ≤ ka ∧ ka ≤ 255 ∧ 0 ≤ kb ∧ kb ≤ 255 := by
                          have h1 := (s.data.toList.getD 0 0).toNat_lt
                          have h2 := (s.data.toList.getD 1 0).toNat_lt
                          omega
                        rw [hka] at i0
                        rw [hkb] at i1
                        have hput := fun D (hD : Counts D GB) => hD.put s
                        obtain ⟨c, hc'⟩ : ∃ c : Nat, cnt GB (keyF s) = c := ⟨_, rfl⟩
                        simp only [hc'] at lk hcl hput
                        rw [hk] at lk hkle
                        simp only [hk] at hput
                        have hw1 : IntKind.i64.wrap ka = ka := by rw [IntKind.wrap_i64]; omega
                        have hw2 : IntKind.i64.wrap kb = kb := by rw [IntKind.wrap_i64]; omega
                        have hw3 : IntKind.i64.wrap (ka * 256) = ka * 256 := by rw [IntKind.wrap_i64]; omega
                        have hw4 : IntKind.i64.wrap (ka * 256 + kb) = ka * 256 + kb := by rw [IntKind.wrap_i64]; omega
                        have hw5 : IntKind.i64.wrap ((c : Int) + 1) = (c : Int) + 1 := by rw [IntKind.wrap_i64]; omega
                        have hw6 : IntKind.i64.wrap ((j2 : Int) + 1) = (j2 : Int) + 1 := by rw [IntKind.wrap_i64]; omega
                        obtain ⟨D, hD1, hD2⟩ := HO4.out.back
                        have HD := Lib.hid (ownsMap_keep hD1 ((Mod.refl (fun _ => False) wr).drew) (fun h => h))
                        have HP := Lib.hid (hput D hD2)
                        have HGN := Lib.hid hgn
                        have ij0 : (0 : Int) ≤ (j2 : Int) := by omega
                        clear hka hkb hk hc' hput hD1 hD2 hcell htk hse hGB hgn ck
                        go_wp2_with fail
                        refine region_m (by kernel_rfl) ?_
                        simp only [List.length_cons, List.length_nil, List.replicate]
                        refine take0 (v := ?v181) (oi := ?o181) 0 ?hi181 (by kernel_rfl) (by kernel_rfl) (by kernel_rfl) ?hq181 ?hy181 ?_
                        case hi181 => (simp only [List.getElem?_toArray, List.getElem?_cons_zero, List.getElem?_cons_succ]; rfl)
                        case hq181 => exact fun _ _ _ h => h
                        case hy181 => first | (refine ry_not ?_; rfl) | (refine ry_run (by rfl) (fun w' hw' => ?_); go_simp; try rfl)
                        simp only [Act.put, List.setIfInBounds_toArray, List.set_cons_zero, List.set_cons_succ]
                        refine take0 (v := ?v182) (oi := ?o182) 1 ?hi182 (by kernel_rfl) (by kernel_rfl) (by kernel_rfl) ?hq182 ?hy182 ?_
                        case hi182 => (simp only [List.getElem?_toArray, List.getElem?_cons_zero, List.getElem?_cons_succ]; rfl)
                        case hq182 => exact fun _ _ _ h => h
                        case hy182 => first | (refine ry_not ?_; rfl) | (refine ry_run (by rfl) (fun w' hw' => ?_); go_simp; try rfl)
                        simp only [Act.put, List.setIfInBounds_toArray, List.set_cons_zero, List.set_cons_succ]
                        refine take0 (v := ?v183) (oi := ?o183) 2 ?hi183 (by kernel_rfl) (by kernel_rfl) (by kernel_rfl) ?hq183 ?hy183 ?_
                        case hi183 => (simp only [List.getElem?_toArray, List.getElem?_cons_zero, List.getElem?_cons_succ]; rfl)
                        case hq183 => exact fun _ _ _ h => h
                        case hy183 => first | (refine ry_not ?_; rfl) | (refine ry_run (by rfl) (fun w' hw' => ?_); go_simp; try rfl)
                        simp only [Act.put, List.setIfInBounds_toArray, List.set_cons_zero, List.set_cons_succ]
                        refine take0 (v := ?v184) (oi := ?o184) 3 ?hi184 (by kernel_rfl) (by kernel_rfl) (by kernel_rfl) ?hq184 ?hy184 ?_
                        case hi184 => (simp only [List.getElem?_toArray, List.getElem?_cons_zero, List.getElem?_cons_succ]; rfl)
                        case hq184 => exact fun _ _ _ h => h
                        case hy184 => first | (refine ry_not ?_; rfl) | (refine ry_run (by rfl) (fun w' hw' => ?_); go_simp; try rfl)
                        simp only [Act.put, List.setIfInBounds_toArray, List.set_cons_zero, List.set_cons_succ]
                        refine take0 (v := ?v185) (oi := ?o185) 4 ?hi185 (by kernel_rfl) (by kernel_rfl) (by kernel_rfl) ?hq185 ?hy185 ?_
                        case hi185 => (simp only [List.getElem?_toArray, List.getElem?_cons_zero, List.getElem?_cons_succ]; rfl)
                        case hq185 => exact fun _ _ _ h => h
                        case hy185 => first | (refine ry_not ?_; rfl) | (refine ry_run (by rfl) (fun w' hw' => ?_); go_simp; try rfl)
                        simp only [Act.put, List.setIfInBounds_toArray, List.set_cons_zero, List.set_cons_succ]
                        refine take0 (v := ?v186) (oi := ?o186) 5 ?hi186 (by kernel_rfl) (by kernel_rfl) (by kernel_rfl) ?hq186 ?hy186 ?_
                        case hi186 => (simp only [List.getElem?_toArray, List.getElem?_cons_zero, List.getElem?_cons_succ]; rfl)
                        case hq186 => exact fun _ _ _ h => h
                        case hy186 => first | (refine ry_not ?_; rfl) | (refine ry_run (by rfl) (fun w' hw' => ?_); go_simp; try rfl)
                        simp only [Act.put, List.setIfInBounds_toArray, List.set_cons_zero, List.set_cons_succ]
                        refine take0 (v := ?v187) (oi := ?o187) 6 ?hi187 (by kernel_rfl) (by kernel_rfl) (by kernel_rfl) ?hq187 ?hy187 ?_
                        case hi187 => (simp only [List.getElem?_toArray, List.getElem?_cons_zero, List.getElem?_cons_succ]; rfl)
                        case hq187 => exact fun _ _ _ h => h
                        case hy187 => first | (refine ry_not ?_; rfl) | (refine ry_run (by rfl) (fun w' hw' => ?_); go_simp; try rfl)
                        simp only [Act.put, List.setIfInBounds_toArray, List.set_cons_zero, List.set_cons_succ]
                        refine take0 (v := ?v188) (oi := ?o188) 7 ?hi188 (by kernel_rfl) (by kernel_rfl) (by kernel_rfl) ?hq188 ?hy188 ?_
                        case hi188 => (simp only [List.getElem?_toArray, List.getElem?_cons_zero, List.getElem?_cons_succ]; rfl)
                        case hq188 => exact fun _ _ _ h => h
                        case hy188 => first | (refine ry_not ?_; rfl) | (refine ry_run (by rfl) (fun w' hw' => ?_); go_simp; try rfl)
                        simp only [Act.put, List.setIfInBounds_toArray, List.set_cons_zero, List.set_cons_succ]
                        refine take0 (v := ?v189) (oi := ?o189) 8 ?hi189 (by kernel_rfl) (by kernel_rfl) (by kernel_rfl) ?hq189 ?hy189 ?_
                        case hi189 => (simp only [List.getElem?_toArray, List.getElem?_cons_zero, List.getElem?_cons_succ]; rfl)
                        case hq189 => exact fun _ _ _ h => h
                        case hy189 => first | (refine ry_not ?_; rfl) | (refine ry_run (by rfl) (fun w' hw' => ?_); go_simp; try rfl)
                        simp only [Act.put, List.setIfInBounds_toArray, List.set_cons_zero, List.set_cons_succ]
                        refine take0 (v := ?v190) (oi := ?o190) 9 ?hi190 (by kernel_rfl) (by kernel_rfl) (by kernel_rfl) ?hq190 ?hy190 ?_
                        case hi190 => (simp only [List.getElem?_toArray, List.getElem?_cons_zero, List.getElem?_cons_succ]; rfl)
                        case hq190 => exact fun _ _ _ h => h
                        case hy190 => first | (refine ry_not ?_; rfl) | (refine ry_run (by rfl) (fun w' hw' => ?_); go_simp; try rfl)
                        simp only [Act.put, List.setIfInBounds_toArray, List.set_cons_zero, List.set_cons_succ]
                        refine take0 (v := ?v191) (oi := ?o191) 10 ?hi191 (by kernel_rfl) (by kernel_rfl) (by kernel_rfl) ?hq191 ?hy191 ?_
                        case hi191 => (simp only [List.getElem?_toArray, List.getElem?_cons_zero, List.getElem?_cons_succ]; rfl)
                        case hq191 => exact fun _ _ _ h => h
                        case hy191 => first | (refine ry_not ?_; rfl) | (refine ry_run (by rfl) (fun w' hw' => ?_); go_simp; try rfl)
                        simp only [Act.put, List.setIfInBounds_toArray, List.set_cons_zero, List.set_cons_succ]
                        refine take0 (v := ?v192) (oi := ?o192) 11 ?hi192 (by kernel_rfl) (by kernel_rfl) (by kernel_rfl) ?hq192 ?hy192 ?_
                        case hi192 => (simp only [List.getElem?_toArray, List.getElem?_cons_zero, List.getElem?_cons_succ]; rfl)
                        case hq192 => exact fun _ _ _ h => h
                        case hy192 => first | (refine ry_not ?_; rfl) | (refine ry_run (by rfl) (fun w' hw' => ?_); go_simp; try rfl)
                        simp only [Act.put, List.setIfInBounds_toArray, List.set_cons_zero, List.set_cons_succ]
                        refine take0 (v := ?v193) (oi := ?o193) 12 ?hi193 (by kernel_rfl) (by kernel_rfl) (by kernel_rfl) ?hq193 ?hy193 ?_
                        case hi193 => (simp only [List.getElem?_toArray, List.getElem?_cons_zero, List.getElem?_cons_succ]; rfl)
                        case hq193 => exact fun _ _ _ h => h
                        case hy193 => first | (refine ry_not ?_; rfl) | (refine ry_run (by rfl) (fun w' hw' => ?_); go_simp; try rfl)
                        simp only [Act.put, List.setIfInBounds_toArray, List.set_cons_zero, List.set_cons_succ]
                        refine take0 (v := ?v194) (oi := ?o194) 13 ?hi194 (by kernel_rfl) (by kernel_rfl) (by kernel_rfl) ?hq194 ?hy194 ?_
                        case hi194 => (simp only [List.getElem?_toArray, List.getElem?_cons_zero, List.getElem?_cons_succ]; rfl)
                        case hq194 => exact fun _ _ _ h => h
                        case hy194 => first | (refine ry_not ?_; rfl) | (refine ry_run (by rfl) (fun w' hw' => ?_); go_simp; try rfl)
                        simp only [Act.put, List.setIfInBounds_toArray, List.set_cons_zero, List.set_cons_succ]
                        refine take0 (v := ?v195) (oi := ?o195) 14 ?hi195 (by kernel_rfl) (by kernel_rfl) (by kernel_rfl) ?hq195 ?hy195 ?_
                        case hi195 => (simp only [List.getElem?_toArray, List.getElem?_cons_zero, List.getElem?_cons_succ]; rfl)
                        case hq195 => exact fun _ _ _ h => h
                        case hy195 => first | (refine ry_not ?_; rfl) | (refine ry_run (by rfl) (fun w' hw' => ?_); go_simp; try rfl)
                        simp only [Act.put, List.setIfInBounds_toArray, List.set_cons_zero, List.set_cons_succ]
                        refine take0 (v := ?v196) (oi := ?o196) 15 ?hi196 (by kernel_rfl) (by kernel_rfl) (by kernel_rfl) ?hq196 ?hy196 ?_
                        case hi196 => (simp only [List.getElem?_toArray, List.getElem?_cons_zero, List.getElem?_cons_succ]; rfl)
                        case hq196 => exact fun _ _ _ h => h
                        case hy196 => first | (refine ry_not ?_; rfl) | (refine ry_run (by rfl) (fun w' hw' => ?_); go_simp; try rfl)
                        simp only [Act.put, List.setIfInBounds_toArray, List.set_cons_zero, List.set_cons_succ]
                        refine take0 (v := ?v197) (oi := ?o197) 16 ?hi197 (by kernel_rfl) (by kernel_rfl) (by kernel_rfl) ?hq197 ?hy197 ?_
                        case hi197 => (simp only [List.getElem?_toArray, List.getElem?_cons_zero, List.getElem?_cons_succ]; rfl)
                        case hq197 => exact fun _ _ _ h => h
                        case hy197 => first | (refine ry_not ?_; rfl) | (refine ry_run (by rfl) (fun w' hw' => ?_); go_simp; try rfl)
                        simp only [Act.put, List.setIfInBounds_toArray, List.set_cons_zero, List.set_cons_succ]
                        refine step0 (o := ?o198) 17 (by kernel_rfl) ?hi198 ?hw198 ?_
                        case hi198 => (simp only [List.getElem?_toArray, List.getElem?_cons_zero, List.getElem?_cons_succ]; rfl)
                        case hw198 => rfl
                        refine upd_step (.tmp 121) (.tmp 135) (.tmp 137) 41 rfl 3 3 (int_keyed Try.underlying3) Try.underlying41 (plainElem Try.prog 3) bk GB.length D rfl HD.out (by unfold maxLen; omega) (.int .i64 (ka * 256 + kb)) (.int .i64 ((c : Int) + 1)) (.int .i64 (ka * 256 + kb)) rfl rfl (keyOf_int_mk Try.underlying3 (wf_key (by omega))) (.lit (.int .i64 ((c : Int) + 1))) [] (plainElem_int Try.underlying3 (WalkArith.wf_i64 (by omega))) ?_
                        intro w8 hown8 hgrow8
                        refine ⟨.inr (by kernel_rfl), ?_⟩
                        simp only [Act.put, List.setIfInBounds_toArray, List.set_cons_zero, List.set_cons_succ]
                        refine wpAnyM_done (by kernel_rfl) ?_
                        clear x0 lk i0 i1
                        have hm8 : Mod (fun k => k = bk) wr w8 := Mod.grown ((Mod.refl (fun k => k = bk) wr).drew) hgrow8 (fun k hk _ => by injection hk with hk; exact hk.symm)
                        have hO8 := HO4.out.upd hm8 ⟨_, by rw [List.length_append]; exact hown8, HP.out⟩
                        have hF8 : Frames w8 (some ⟨gf, og, none⟩) cg OUT := HFR4.out.keep hm8 (fun a ha e => by
                          obtain ⟨cur, fr, hh⟩ := HFR4.out.row a ha
                          exact HO4.out.back.ne hh e.symm)
                        rw [← HGN.out] at hO8
                        have HO8 := Lib.hid hO8
                        have HF8 := Lib.hid hF8
                        clear hm8 hO8 hF8 hown8 hgrow8
                        go_wp2_with fail
                        go_roundw
                        case rel => exact ⟨j2 + 1, by go_num, by omega, HO8, HF8⟩
                        case measure => simp [intOf]; omega
                      · have ij : ¬ (j2 : Int) < (OUT.length : Int) := by omega
                        have hje : j2 = OUT.length := by omega
                        subst hje
                        have HEND := HO4
                        rw [List.take_length] at HEND
                        clear HO4 HFR4
                        have hw15 : IntKind.i64.wrap ((k2 : Int) + 1) = (k2 : Int) + 1 := by rw [IntKind.wrap_i64]; omega
                        go_wp2_with fail
                        go_roundw
                        case rel => exact ⟨k2 + 1, by go_num, by go_num, by omega, Lib.hid ⟨_, _, _, _, _, _, _, HEND.out, hl60⟩⟩
                        case measure => simp [intOf]; omega
                · have i2 : ¬ (0 : Int) < (lz.length : Int) := by omega
                  as_aux_lemma =>
                    obtain rfl : lz = [] := List.eq_nil_of_length_eq_zero (by omega)
                    have HE : Hid (ERel bn bm bq bk L0 k2 0 w wr) := Lib.hid ⟨wt, wb, st, got, pz, Fz, by show OnAt _ _ _ _ _ (ksN k2 ++ []) _ _ _ _ _ _ _ _ _ _ _; rw [List.append_nil]; exact HON.out, fun h => by omega⟩
                    clear HON HR2 hln
                    go_wp2_with fail
                    clear i1 i2
                    go_loopw [19] (fun j wr => ∃ j4 : Nat, j = .int .i64 j4 ∧ j4 ≤ 3 ∧ Hid (ERel bn bm bq bk L0 k2 j4 w wr)) (fun j _ => 3 - (intOf j).toNat)
                    case atStart => exact ⟨0, by go_num, by omega, HE⟩
                    case round =>
                      obtain ⟨j4, rfl, hj4, HE4⟩ := hrel
                      by_cases hj3 : j4 < 3
                      · have i1 : (j4 : Int) < 3 := by omega
                        have hq1 : IntKind.u8.wrap (j4 : Int) = (j4 : Int) := by simp [IntKind.wrap, IntKind.bits, IntKind.signed]; omega
                        have hcv := cv_two 255 (UInt8.ofNat j4) wr
                        rw [ofNat_toNat j4 (by omega), show (((255 : UInt8).toNat : Nat) : Int) = 255 from rfl] at hcv
                        change _ = Result.ok (Value.string (eB j4)) _ at hcv
                        obtain ⟨wty, wby, sty, goty, py, Fy, hOY, hly⟩ := HE4.out
                        have hA := (hOY.keep ((Mod.refl (fun _ => False) wr).alloc (.cells #[.int .u8 255, .int .u8 (j4 : Int)] 5))).ask (by omega) (eB j4) (by
                          rw [eB_key j4 (by omega)]
                          intro h
                          rcases List.mem_append.1 h with h | h
                          · have := ksN_mem h; omega
                          · have := eK_mem h; omega) rfl
                        rw [eB_key j4 (by omega), List.append_assoc, ← eK_succ] at hA
                        have HA := Lib.hid hA
                        clear hA hOY hly HE4 HE
                        go_wp2_with fail
                        refine HA.out.mono ?_
                        rintro e w5 ⟨Ag, cg, OUT, l3, wt3, wb3, st3, p3, F3, rfl, hfr, htw, hol, hO3, hl3, hnil⟩
                        obtain ⟨rfl, rfl, rfl⟩ := hnil (by simp)
                        have HFR := Lib.hid hfr
                        have HTW := Lib.hid htw
                        have HO3 := Lib.hid hO3
                        clear hfr htw hO3 hl3 hcv HA hnil
                        go_wp2_with fail
                        go_loopw [21] (fun j wr => ∃ j2 : Nat, j = .int .i64 j2 ∧ j2 ≤ OUT.length ∧ Hid (OnAt bn bm bq bk L0 (ksN k2 ++ eK (j4 + 1)) (k2 + j4 + 1) [] [] [] st3 (goty ++ OUT) (goty ++ OUT.take j2) p3 F3 w wr) ∧ Hid (Frames wr Ag cg OUT)) (fun j _ => OUT.length - (intOf j).toNat)
                        case atStart => exact ⟨0, by go_num, by omega, by rw [List.take_zero, List.append_nil]; exact HO3, HFR⟩
                        case round =>
                          obtain ⟨j2, rfl, hj2, HO4, HFR4⟩ := hrel
                          by_cases hjl : j2 < OUT.length
                          · have ij : (j2 : Int) < (OUT.length : Int) := by omega
                            have hcs := HFR4.out.cells
                            rcases hcs with hcl | ⟨gf, og, rfl, hcell⟩
                            · have hz0 := sv_len OUT; rw [hcl] at hz0; simp at hz0; omega
                            have ck := hcell j2 _ (sv_get OUT j2 hjl)
                            have hgf : gf < wr.heap.size := World.block_lt_of_cell? wr _ ck
                            have hs := HTW.out OUT[j2] (List.getElem_mem hjl)
                            have htk : OUT.take (j2 + 1) = OUT.take j2 ++ [OUT[j2]] := List.take_succ_eq_append_getElem hjl
                            obtain ⟨s, hse⟩ : ∃ s, OUT[j2] = s := ⟨_, rfl⟩
                            rw [hse] at ck hs htk
                            have x0 := fun (w' : World) (m : Mod0 wr.drew w') => ((Mod.of_drew_l m).cell (p := ⟨gf, og + j2, none⟩) hgf (fun h => h)).trans ck
                            have lk := fun (w' : World) (m : Mod0 wr.drew w') => (HO4.out.back.keep (Mod.of_drew_l m) (fun h => h)).look (keyF s) (by have := key_le s; omega)
                            have i0 : ∀ w' : World, (Instr.index 9 (.string s) (.int .i64 0)).run Try.prog w' = _ := fun w' => idx_at s 0 (by omega) w'
                            have i1 : ∀ w' : World, (Instr.index 9 (.string s) (.int .i64 1)).run Try.prog w' = _ := fun w' => idx_at s 1 (by omega) w'
                            have hkle := key_le s
                            have hlg : (goty ++ OUT.take j2).length ≤ 100000 := by
                              have h1 := HO4.out.fit.lb
                              have h2 := HO4.out.fit.lt
                              simp only [List.length_append, List.length_take] at h1 ⊢
                              omega
                            obtain ⟨GB, hGB⟩ : ∃ GB, goty ++ OUT.take j2 = GB := ⟨_, rfl⟩
                            have hgn : goty ++ OUT.take (j2 + 1) = GB ++ [s] := by rw [htk, ← List.append_assoc, hGB]
                            rw [hGB] at HO4 hlg
                            simp only [hGB] at lk
                            have hcl := cnt_le GB (keyF s)
                            obtain ⟨ka, hka⟩ : ∃ ka : Int, ((s.data.toList.getD 0 0).toNat : Int) = ka := ⟨_, rfl⟩
                            obtain ⟨kb, hkb⟩ : ∃ kb : Int, ((s.data.toList.getD 1 0).toNat : Int) = kb := ⟨_, rfl⟩
                            have hk : keyF s = ka * 256 + kb := by unfold keyF; rw [hka, hkb]
                            have hab : 0 ≤ ka ∧ ka ≤ 255 ∧ 0 ≤ kb ∧ kb ≤ 255 := by
                              have h1 := (s.data.toList.getD 0 0).toNat_lt
                              have h2 := (s.data.toList.getD 1 0).toNat_lt
                              omega
                            rw [hka] at i0
                            rw [hkb] at i1
                            have hput := fun D (hD : Counts D GB) => hD.put s
                            obtain ⟨c, hc'⟩ : ∃ c : Nat, cnt GB (keyF s) = c := ⟨_, rfl⟩
                            simp only [hc'] at lk hcl hput
                            rw [hk] at lk hkle
                            simp only [hk] at hput
                            have hw1 : IntKind.i64.wrap ka = ka := by rw [IntKind.wrap_i64]; omega
                            have hw2 : IntKind.i64.wrap kb = kb := by rw [IntKind.wrap_i64]; omega
                            have hw3 : IntKind.i64.wrap (ka * 256) = ka * 256 := by rw [IntKind.wrap_i64]; omega
                            have hw4 : IntKind.i64.wrap (ka * 256 + kb) = ka * 256 + kb := by rw [IntKind.wrap_i64]; omega
                            have hw5 : IntKind.i64.wrap ((c : Int) + 1) = (c : Int) + 1 := by rw [IntKind.wrap_i64]; omega
                            have hw6 : IntKind.i64.wrap ((j2 : Int) + 1) = (j2 : Int) + 1 := by rw [IntKind.wrap_i64]; omega
                            obtain ⟨D, hD1, hD2⟩ := HO4.out.back
                            have HD := Lib.hid (ownsMap_keep hD1 ((Mod.refl (fun _ => False) wr).drew) (fun h => h))
                            have HP := Lib.hid (hput D hD2)
                            have HGN := Lib.hid hgn
                            have ij0 : (0 : Int) ≤ (j2 : Int) := by omega
                            clear hka hkb hk hc' hput hD1 hD2 hcell htk hse hGB hgn ck
                            go_wp2_with fail
                            refine region_m (by kernel_rfl) ?_
                            simp only [List.length_cons, List.length_nil, List.replicate]
                            refine take0 (v := ?v199) (oi := ?o199) 0 ?hi199 (by kernel_rfl) (by kernel_rfl) (by kernel_rfl) ?hq199 ?hy199 ?_
                            case hi199 => (simp only [List.getElem?_toArray, List.getElem?_cons_zero, List.getElem?_cons_succ]; rfl)
                            case hq199 => exact fun _ _ _ h => h
                            case hy199 => first | (refine ry_not ?_; rfl) | (refine ry_run (by rfl) (fun w' hw' => ?_); go_simp; try rfl)
                            simp only [Act.put, List.setIfInBounds_toArray, List.set_cons_zero, List.set_cons_succ]
                            refine take0 (v := ?v200) (oi := ?o200) 1 ?hi200 (by kernel_rfl) (by kernel_rfl) (by kernel_rfl) ?hq200 ?hy200 ?_
                            case hi200 => (simp only [List.getElem?_toArray, List.getElem?_cons_zero, List.getElem?_cons_succ]; rfl)
                            case hq200 => exact fun _ _ _ h => h
                            case hy200 => first | (refine ry_not ?_; rfl) | (refine ry_run (by rfl) (fun w' hw' => ?_); go_simp; try rfl)
                            simp only [Act.put, List.setIfInBounds_toArray, List.set_cons_zero, List.set_cons_succ]
                            refine take0 (v := ?v201) (oi := ?o201) 2 ?hi201 (by kernel_rfl) (by kernel_rfl) (by kernel_rfl) ?hq201 ?hy201 ?_
                            case hi201 => (simp only [List.getElem?_toArray, List.getElem?_cons_zero, List.getElem?_cons_succ]; rfl)
                            case hq201 => exact fun _ _ _ h => h
                            case hy201 => first | (refine ry_not ?_; rfl) | (refine ry_run (by rfl) (fun w' hw' => ?_); go_simp; try rfl)
                            simp only [Act.put, List.setIfInBounds_toArray, List.set_cons_zero, List.set_cons_succ]
                            refine take0 (v := ?v202) (oi := ?o202) 3 ?hi202 (by kernel_rfl) (by kernel_rfl) (by kernel_rfl) ?hq202 ?hy202 ?_
                            case hi202 => (simp only [List.getElem?_toArray, List.getElem?_cons_zero, List.getElem?_cons_succ]; rfl)
                            case hq202 => exact fun _ _ _ h => h
                            case hy202 => first | (refine ry_not ?_; rfl) | (refine ry_run (by rfl) (fun w' hw' => ?_); go_simp; try rfl)
                            simp only [Act.put, List.setIfInBounds_toArray, List.set_cons_zero, List.set_cons_succ]
                            refine take0 (v := ?v203) (oi := ?o203) 4 ?hi203 (by kernel_rfl) (by kernel_rfl) (by kernel_rfl) ?hq203 ?hy203 ?_
                            case hi203 => (simp only [List.getElem?_toArray, List.getElem?_cons_zero, List.getElem?_cons_succ]; rfl)
                            case hq203 => exact fun _ _ _ h => h
                            case hy203 => first | (refine ry_not ?_; rfl) | (refine ry_run (by rfl) (fun w' hw' => ?_); go_simp; try rfl)
                            simp only [Act.put, List.setIfInBounds_toArray, List.set_cons_zero, List.set_cons_succ]
                            refine take0 (v := ?v204) (oi := ?o204) 5 ?hi204 (by kernel_rfl) (by kernel_rfl) (by kernel_rfl) ?hq204 ?hy204 ?_
                            case hi204 => (simp only [List.getElem?_toArray, List.getElem?_cons_zero, List.getElem?_cons_succ]; rfl)
                            case hq204 => exact fun _ _ _ h => h
                            case hy204 => first | (refine ry_not ?_; rfl) | (refine ry_run (by rfl) (fun w' hw' => ?_); go_simp; try rfl)
                            simp only [Act.put, List.setIfInBounds_toArray, List.set_cons_zero, List.set_cons_succ]
                            refine take0 (v := ?v205) (oi := ?o205) 6 ?hi205 (by kernel_rfl) (by kernel_rfl) (by kernel_rfl) ?hq205 ?hy205 ?_
                            case hi205 => (simp only [List.getElem?_toArray, List.getElem?_cons_zero, List.getElem?_cons_succ]; rfl)
                            case hq205 => exact fun _ _ _ h => h
                            case hy205 => first | (refine ry_not ?_; rfl) | (refine ry_run (by rfl) (fun w' hw' => ?_); go_simp; try rfl)
                            simp only [Act.put, List.setIfInBounds_toArray, List.set_cons_zero, List.set_cons_succ]
                            refine take0 (v := ?v206) (oi := ?o206) 7 ?hi206 (by kernel_rfl) (by kernel_rfl) (by kernel_rfl) ?hq206 ?hy206 ?_
                            case hi206 => (simp only [List.getElem?_toArray, List.getElem?_cons_zero, List.getElem?_cons_succ]; rfl)
                            case hq206 => exact fun _ _ _ h => h
                            case hy206 => first | (refine ry_not ?_; rfl) | (refine ry_run (by rfl) (fun w' hw' => ?_); go_simp; try rfl)
                            simp only [Act.put, List.setIfInBounds_toArray, List.set_cons_zero, List.set_cons_succ]
                            refine take0 (v := ?v207) (oi := ?o207) 8 ?hi207 (by kernel_rfl) (by kernel_rfl) (by kernel_rfl) ?hq207 ?hy207 ?_
                            case hi207 => (simp only [List.getElem?_toArray, List.getElem?_cons_zero, List.getElem?_cons_succ]; rfl)
                            case hq207 => exact fun _ _ _ h => h
                            case hy207 => first | (refine ry_not ?_; rfl) | (refine ry_run (by rfl) (fun w' hw' => ?_); go_simp; try rfl)
                            simp only [Act.put, List.setIfInBounds_toArray, List.set_cons_zero, List.set_cons_succ]
                            refine take0 (v := ?v208) (oi := ?o208) 9 ?hi208 (by kernel_rfl) (by kernel_rfl) (by kernel_rfl) ?hq208 ?hy208 ?_
                            case hi208 => (simp only [List.getElem?_toArray, List.getElem?_cons_zero, List.getElem?_cons_succ]; rfl)
                            case hq208 => exact fun _ _ _ h => h
                            case hy208 => first | (refine ry_not ?_; rfl) | (refine ry_run (by rfl) (fun w' hw' => ?_); go_simp; try rfl)
                            simp only [Act.put, List.setIfInBounds_toArray, List.set_cons_zero, List.set_cons_succ]
                            refine take0 (v := ?v209) (oi := ?o209) 10 ?hi209 (by kernel_rfl) (by kernel_rfl) (by kernel_rfl) ?hq209 ?hy209 ?_
                            case hi209 => (simp only [List.getElem?_toArray, List.getElem?_cons_zero, List.getElem?_cons_succ]; rfl)
                            case hq209 => exact fun _ _ _ h => h
                            case hy209 => first | (refine ry_not ?_; rfl) | (refine ry_run (by rfl) (fun w' hw' => ?_); go_simp; try rfl)
                            simp only [Act.put, List.setIfInBounds_toArray, List.set_cons_zero, List.set_cons_succ]
                            refine take0 (v := ?v210) (oi := ?o210) 11 ?hi210 (by kernel_rfl) (by kernel_rfl) (by kernel_rfl) ?hq210 ?hy210 ?_
                            case hi210 => (simp only [List.getElem?_toArray, List.getElem?_cons_zero, List.getElem?_cons_succ]; rfl)
                            case hq210 => exact fun _ _ _ h => h
                            case hy210 => first | (refine ry_not ?_; rfl) | (refine ry_run (by rfl) (fun w' hw' => ?_); go_simp; try rfl)
                            simp only [Act.put, List.setIfInBounds_toArray, List.set_cons_zero, List.set_cons_succ]
                            refine take0 (v := ?v211) (oi := ?o211) 12 ?hi211 (by kernel_rfl) (by kernel_rfl) (by kernel_rfl) ?hq211 ?hy211 ?_
                            case hi211 => (simp only [List.getElem?_toArray, List.getElem?_cons_zero, List.getElem?_cons_succ]; rfl)
                            case hq211 => exact fun _ _ _ h => h
                            case hy211 => first | (refine ry_not ?_; rfl) | (refine ry_run (by rfl) (fun w' hw' => ?_); go_simp; try rfl)
                            simp only [Act.put, List.setIfInBounds_toArray, List.set_cons_zero, List.set_cons_succ]
                            refine take0 (v := ?v212) (oi := ?o212) 13 ?hi212 (by kernel_rfl) (by kernel_rfl) (by kernel_rfl) ?hq212 ?hy212 ?_
                            case hi212 => (simp only [List.getElem?_toArray, List.getElem?_cons_zero, List.getElem?_cons_succ]; rfl)
                            case hq212 => exact fun _ _ _ h => h
                            case hy212 => first | (refine ry_not ?_; rfl) | (refine ry_run (by rfl) (fun w' hw' => ?_); go_simp; try rfl)
                            simp only [Act.put, List.setIfInBounds_toArray, List.set_cons_zero, List.set_cons_succ]
                            refine take0 (v := ?v213) (oi := ?o213) 14 ?hi213 (by kernel_rfl) (by kernel_rfl) (by kernel_rfl) ?hq213 ?hy213 ?_
                            case hi213 => (simp only [List.getElem?_toArray, List.getElem?_cons_zero, List.getElem?_cons_succ]; rfl)
                            case hq213 => exact fun _ _ _ h => h
                            case hy213 => first | (refine ry_not ?_; rfl) | (refine ry_run (by rfl) (fun w' hw' => ?_); go_simp; try rfl)
                            simp only [Act.put, List.setIfInBounds_toArray, List.set_cons_zero, List.set_cons_succ]
                            refine take0 (v := ?v214) (oi := ?o214) 15 ?hi214 (by kernel_rfl) (by kernel_rfl) (by kernel_rfl) ?hq214 ?hy214 ?_
                            case hi214 => (simp only [List.getElem?_toArray, List.getElem?_cons_zero, List.getElem?_cons_succ]; rfl)
                            case hq214 => exact fun _ _ _ h => h
                            case hy214 => first | (refine ry_not ?_; rfl) | (refine ry_run (by rfl) (fun w' hw' => ?_); go_simp; try rfl)
                            simp only [Act.put, List.setIfInBounds_toArray, List.set_cons_zero, List.set_cons_succ]
                            refine take0 (v := ?v215) (oi := ?o215) 16 ?hi215 (by kernel_rfl) (by kernel_rfl) (by kernel_rfl) ?hq215 ?hy215 ?_
                            case hi215 => (simp only [List.getElem?_toArray, List.getElem?_cons_zero, List.getElem?_cons_succ]; rfl)
                            case hq215 => exact fun _ _ _ h => h
                            case hy215 => first | (refine ry_not ?_; rfl) | (refine ry_run (by rfl) (fun w' hw' => ?_); go_simp; try rfl)
                            simp only [Act.put, List.setIfInBounds_toArray, List.set_cons_zero, List.set_cons_succ]
                            refine step0 (o := ?o216) 17 (by kernel_rfl) ?hi216 ?hw216 ?_
                            case hi216 => (simp only [List.getElem?_toArray, List.getElem?_cons_zero, List.getElem?_cons_succ]; rfl)
                            case hw216 => rfl
                            refine upd_step (.tmp 156) (.tmp 170) (.tmp 172) 41 rfl 3 3 (int_keyed Try.underlying3) Try.underlying41 (plainElem Try.prog 3) bk GB.length D rfl HD.out (by unfold maxLen; omega) (.int .i64 (ka * 256 + kb)) (.int .i64 ((c : Int) + 1)) (.int .i64 (ka * 256 + kb)) rfl rfl (keyOf_int_mk Try.underlying3 (wf_key (by omega))) (.lit (.int .i64 ((c : Int) + 1))) [] (plainElem_int Try.underlying3 (WalkArith.wf_i64 (by omega))) ?_
                            intro w8 hown8 hgrow8
                            refine ⟨.inr (by kernel_rfl), ?_⟩
                            simp only [Act.put, List.setIfInBounds_toArray, List.set_cons_zero, List.set_cons_succ]
                            refine wpAnyM_done (by kernel_rfl) ?_
                            clear x0 lk i0 i1
                            have hm8 : Mod (fun k => k = bk) wr w8 := Mod.grown ((Mod.refl (fun k => k = bk) wr).drew) hgrow8 (fun k hk _ => by injection hk with hk; exact hk.symm)
                            have hO8 := HO4.out.upd hm8 ⟨_, by rw [List.length_append]; exact hown8, HP.out⟩
                            have hF8 : Frames w8 (some ⟨gf, og, none⟩) cg OUT := HFR4.out.keep hm8 (fun a ha e => by
                              obtain ⟨cur, fr, hh⟩ := HFR4.out.row a ha
                              exact HO4.out.back.ne hh e.symm)
                            rw [← HGN.out] at hO8
                            have HO8 := Lib.hid hO8
                            have HF8 := Lib.hid hF8
                            clear hm8 hO8 hF8 hown8 hgrow8
                            go_wp2_with fail
                            go_roundw
                            case rel => exact ⟨j2 + 1, by go_num, by omega, HO8, HF8⟩
                            case measure => simp [intOf]; omega
                          · have ij : ¬ (j2 : Int) < (OUT.length : Int) := by omega
                            have hje : j2 = OUT.length := by omega
                            subst hje
                            have HEND := HO4
                            rw [List.take_length] at HEND
                            clear HO4 HFR4
                            have hw15 : IntKind.i64.wrap ((j4 : Int) + 1) = (j4 : Int) + 1 := by rw [IntKind.wrap_i64]; omega
                            go_wp2_with fail
                            go_roundw
                            case rel => exact ⟨j4 + 1, by go_num, by omega, Lib.hid ⟨_, _, _, _, _, _, HEND.out, fun _ => ⟨rfl, rfl⟩⟩⟩
                            case measure => simp [intOf]; omega
                      · have i1 : ¬ (j4 : Int) < 3 := by omega
                        obtain ⟨wty, wby, sty, goty, py, Fy, hOY, hly⟩ := HE4.out
                        obtain ⟨rfl, rfl⟩ := hly (by omega)
                        obtain ⟨e1, e2, e3⟩ := hOY.fit.ends
                        have HE5 := Lib.hid (And.intro e1 (And.intro e2 e3))
                        have HO5 := Lib.hid hOY
                        clear hOY hly HE4 HE e1 e2 e3
                        go_wp2_with fail
                        clear i1
                        go_loopw [22, 23] (fun gv j wr => ∃ i6 : Nat, gv = .int .i64 (gone goty i6 : Nat) ∧ j = .int .i64 i6 ∧ i6 ≤ k2 ∧ Hid (OnAt bn bm bq bk L0 (ksN k2 ++ eK j4) (k2 + j4) [] [] [] sty goty goty py Fy w wr)) (fun _ j _ => k2 - (intOf j).toNat)
                        case atStart => exact ⟨0, by go_num, by go_num, by omega, HO5⟩
                        case round =>
                          obtain ⟨i6, rfl, rfl, hi6, HO6⟩ := hrel
                          by_cases hik : i6 < k2
                          · have i1 : (i6 : Int) < (k2 : Int) := by omega
                            have g1 := HE5.out.1 (i6 : Int)
                            have g2 := HE5.out.2.1 (i6 : Int)
                            have x0 := HO6.out.both.srv.1.box.cell (o := 0) rfl
                            have lk1 := HO6.out.both.srv.1.map.look (i6 : Int) (by omega)
                            have lk2 := HO6.out.back.look (i6 : Int) (by omega)
                            have j1 : ¬ (2 : Int) < (cnt sty (i6 : Int) : Int) := by omega
                            have j2 : ¬ (4 : Int) < (cnt goty (i6 : Int) : Int) := by omega
                            have hgs := gone_succ goty i6
                            have hgl := gone_le goty i6
                            have hw1 : IntKind.i64.wrap ((i6 : Int) + 1) = (i6 : Int) + 1 := by rw [IntKind.wrap_i64]; omega
                            have hw2 : IntKind.i64.wrap ((gone goty i6 : Int) + 1) = (gone goty i6 : Int) + 1 := by rw [IntKind.wrap_i64]; omega
                            by_cases hz0 : cnt goty (i6 : Int) = 0
                            · have b0 : ((cnt goty (i6 : Int) : Int) == 0) = true := by rw [hz0]; rfl
                              rw [if_pos hz0] at hgs
                              clear g1 g2
                              go_wp2_with fail
                              go_roundw
                              case rel => exact ⟨i6 + 1, by rw [hgs]; go_num, by go_num, by omega, HO6⟩
                              case measure => simp [intOf]; omega
                            · have b0 : ((cnt goty (i6 : Int) : Int) == 0) = false := by simpa using hz0
                              rw [if_neg hz0] at hgs
                              clear g1 g2
                              go_wp2_with fail
                              go_roundw
                              case rel => exact ⟨i6 + 1, by rw [hgs]; go_num, by go_num, by omega, HO6⟩
                              case measure => simp [intOf]; omega
                          · have i1 : ¬ (i6 : Int) < (k2 : Int) := by omega
                            obtain rfl : i6 = k2 := by omega
                            have g3 : (gone goty i6 : Int) ≤ (L0 : Int) := by have h := HE5.out.2.2; unfold gone; omega
                            have HMW := Lib.hid HO6.out.mod
                            clear HO6 HE5 HO5
                            go_wp2_with fail
                            go_ret
                            exact ⟨rfl, HMW.out.below (fun _ _ h => h)⟩
end Net
end Go.Proofs.Ytocpifoimoaibaa
